/- The law on single cells answers true: FnColumnsPlain. Conditions: the code is a slice of bytes. -/
import Derived.Test.YtbkhimdebpllcaaColsLawM
namespace Go.Proofs.Ytbkhimdebpllcaa
open Go.RowKit

theorem plainR_take {ws : List Int} {n j : Nat} {x : Int} (hn : ws.length = n) (hj : j < n) (hx : ws.getD j default = x) : plainR (ws.take (j + 1)) = plainR (ws.take j) ++ [⟨1, x⟩] := by
  rw [tk_snoc' hn hj hx, plainR, plainR, List.map_append]
  rfl

set_option maxRecDepth 100000 in
set_option maxHeartbeats 4000000 in
theorem law_ColumnsPlain (A : Option Addr) (n cap : Nat) (cs : List Int) (w : World) (hc : Code w A n cap cs) :
    Calls Try.prog 7 #[.slice A n cap] w fun e w' => e = .returned (.bool true) ∧ Below w.heap.size w w' := by
  have hn := hc.1
  unfold maxLen at hn
  by_cases hbig : 1048576 < n
  · go_enter Try.func7, Try.ntmps7
    go_wp2
    go_returns
    exact ⟨rfl, Below.refl _ _⟩
  obtain ⟨j0, ji, jz0, jz1, jz2⟩ := info_parts cell_info
  go_enter Try.func7, Try.ntmps7
  go_wp2_with fail
  ((with_reducible refine (DrawColumnWidths_any _ _ _ cs _ hc).mono ?_); rintro e w1 ⟨g, k, c, rs, t, rfl, hk, ⟨hkc, hcm⟩, hT1, hb1⟩)
  have hkx : k ≤ maxLen := by omega
  obtain ⟨L, hL⟩ : ∃ L, colsV rs t = L := ⟨_, rfl⟩
  obtain ⟨q, hq⟩ : ∃ q, L.length = q := ⟨_, rfl⟩
  have hq8 : q ≤ 8 := by rw [← hq, ← hL]; exact colsV_len _ _
  have hqx : q ≤ maxLen := by unfold maxLen; omega
  have HL := Lib.hid hL
  have HQ := Lib.hid hq
  clear hL hq hc
  go_wp2_with fail
  ((with_reducible refine ((columnWidths_i _ _ _ t rs _ hkx ?_).mono fun _ _ h => ints_form HL.out HQ.out h).mono ?_); (exact hT1.tab); rintro e w2 ⟨P2, d2, rfl, o2, hb2⟩)
  have hT2 := hT1.then_ hb2
  have hB2 := below_then (Nat.le_refl _) hb1 hb2
  go_wp2_with fail
  ((with_reducible refine ((columnWidths_S _ _ _ t rs _ hkx ?_).mono fun _ _ h => ints_form HL.out HQ.out h).mono ?_); (exact hT2.tab); rintro e w3 ⟨P3, d3, rfl, o3, hb3⟩)
  have hT3 := hT2.then_ hb3
  have hB3 := below_then (Nat.le_refl _) hB2 hb3
  have o23 := o2.then_ hb3
  go_wp2_with fail
  ((with_reducible refine (equalInts_same _ _ _ _ _ L _ hqx ?_ ?_).mono ?_); (exact o23.row); (exact o3.row); rintro e w4 ⟨rfl, hb4⟩)
  have hT4 := hT3.then_ hb4
  have hB4 := below_then (Nat.le_refl _) hB3 hb4
  have o24 := o23.then_ hb4
  have hz4 := hB4.size
  clear hT1 hT2 hT3 o2 o3 o23
  by_cases hq0 : q = 0
  · subst hq0
    go_wp2_with fail
    ((with_reducible refine ((columnWidths_S _ _ _ t rs _ hkx ?_).mono fun _ _ h => ints_form HL.out HQ.out h).mono ?_); (exact hT4.tab); rintro e w5 ⟨P5, d5, rfl, o5, hb5⟩)
    have o25 := o24.then_ hb5
    have hB5 := below_then (Nat.le_refl _) hB4 hb5
    go_wp2_with fail
    ((with_reducible refine (equalInts_same _ _ _ _ _ L _ hqx ?_ ?_).mono ?_); (exact o25.row); (exact o5.row); rintro e w6 ⟨rfl, hb6⟩)
    go_wp2_with fail
    go_returns
    exact ⟨rfl, below_then (Nat.le_refl _) hB5 hb6⟩
  have hqb : ((q : Int) == 0) = false := by simp; omega
  obtain ⟨htab, htq, hLc⟩ := cols_some HL.out HQ.out hq0
  subst htq
  have hLb : ∀ x ∈ L, 0 ≤ x ∧ x ≤ 1000 := by
    rw [hLc]
    exact cw_b (fun s hs => (spans_rng htab s hs).2.2.2) q
  have HLB := Lib.hid hLb
  have HR2 := Lib.hid o24.row
  have HAG := Lib.hid (cols_plain HQ.out (by omega) hq8 hLb)
  have hE := Lib.hid (owns_nil (w4.alloc (.cells #[] 46)) w4.heap.size 46 2 0 _ _ (Blk.new w4 46 #[]) (Nat.le_refl _) (by unfold maxLen; omega) rfl)
  have hBE := (Below.refl w4.heap.size w4).alloc (Nat.le_refl _) (.cells #[] 46)
  clear htab hLc o24 hLb hT4
  go_wp2_with fail
  go_loopg [6, 7] q (fun kk lv i wr => ∃ (j g2 c2 : Nat), j ≤ q ∧ kk = q - j ∧ lv = .slice (some ⟨g2, 0, none⟩) j c2 ∧ i = .int .i64 (j : Int) ∧ Hid (OwnC wr w4.heap.size (some ⟨g2, 0, none⟩) j c2 (plainR (L.take j))) ∧ Below w4.heap.size w4 wr)
  case atStart => exact ⟨0, w4.heap.size, 0, Nat.zero_le _, rfl, rfl, by go_num, hE.out, hBE⟩
  case round =>
    obtain ⟨j, g2, c2, hj, hkk, rfl, rfl, hown, hbel⟩ := hrel
    have HK := Lib.hid hkk; clear hkk
    have hsz := hbel.size
    have hgb := (hown.out.p.blk ⟨g2, 0, none⟩ rfl)
    by_cases hlt : j < q
    · obtain ⟨b, off, hA, hb, hc⟩ := HR2.out.at1 (by omega)
      have c0 : wr.cell? ⟨b, off + j, none⟩ = _ := (hbel.cell (p := ⟨b, off + j, none⟩) hb).trans (hc j hlt)
      subst hA
      obtain ⟨x, hx⟩ : ∃ x, L.getD j default = x := ⟨_, rfl⟩
      have hxb := HLB.out x (mem_of_getD HQ.out hlt hx)
      simp only [inc, hx] at c0
      have hxm : min x 1000 = x := by omega
      have HSN := Lib.hid (plainR_take HQ.out hlt hx)
      have hlt' : (j : Int) < (q : Int) := by omega
      have hx1 : x ≤ 1000 := hxb.2
      have HXM := Lib.hid hxm
      clear hc hx hxm
      have hB := hbel.alloc (Nat.le_trans hsz (Nat.le_refl _)) (.cells #[.int .i64 1, .int .i64 x] 46)
      have HO := Lib.hid (World.ownsRow.alloc hown.out (.cells #[.int .i64 1, .int .i64 x] 46))
      have HB := Lib.hid (Blk.new wr 46 #[.int .i64 1, .int .i64 x])
      have HBASE := Lib.hid (show w4.heap.size ≤ (wr.alloc (.cells #[.int .i64 1, .int .i64 x] 46)).heap.size by simp; omega)
      go_wp2_with (at_builtin; (refine wpList_append_one _ rfl _ _ 43 rfl w4.heap.size 46 j0 _ 2 16 Try.underlying43 ji jz0 jz1 jz2 rfl (by omega) (some ⟨g2, 0, none⟩) j c2 ((plainR (L.take j)).flatMap cll) rfl HO.out wr.heap.size (cll (⟨1, x⟩ : Cl)) rfl rfl HB.out (cll_one _) (by omega) (by omega) HBASE.out ?_); intro g6 c6 w6 hown6 hgr6; (have HO6 := Lib.hid hown6); (have hB6 := hB.grown hgr6 hB.size (fun k hk => (HO.out.lt k hk).1)); clear hown6 hgr6)
      go_roundg (q - (j + 1))
      case measure => have := HK.out; omega
      case rel => exact ⟨j + 1, g6, c6, by omega, rfl, rfl, by go_num, by show OwnC _ _ _ _ _ _; rw [HSN.out]; exact OwnC.snoc HO6.out, hB6⟩
    · have ej : j = q := by omega
      subst ej
      have hTL : plainR (L.take j) = plainR L := by rw [List.take_of_length_le (by rw [HQ.out]; exact Nat.le_refl _)]
      have hlen := hown.out.len
      have hcp := hown.out.p.cap
      have hB := below_then (Nat.le_refl _) hB4 hbel
      have hTab : Tab (wr.alloc (.cells #[.slice (some ⟨g2, 0, none⟩) j c2] 43)) (wr.alloc (.cells #[.slice (some ⟨g2, 0, none⟩) j c2] 43)).heap.size (some ⟨wr.heap.size, 0, none⟩) 1 [plainR L] := by
        have h1 := (hown.out.p.alloc (.cells #[.slice (some ⟨g2, 0, none⟩) j c2] 43)).row
        have h2 : (plainR L).length = j := by rw [← hTL]; exact hlen
        rw [hTL] at h1
        refine ⟨rfl, fun _ => some ⟨g2, 0, none⟩, fun _ => c2, fun _ => ⟨wr.heap.size, 0, rfl, by simp, fun i q hi hq => ?_⟩, fun i hi => ?_⟩
        · obtain rfl : i = 0 := by omega
          obtain rfl : q = 0 := by omega
          have h3 := (Blk.new wr 43 #[.slice (some ⟨g2, 0, none⟩) j c2]).cell 0
          show _ = some (Value.slice (some ⟨g2, 0, none⟩) (plainR L).length c2)
          rw [h2]
          exact h3
        · obtain rfl : i = 0 := by omega
          show (plainR L).length ≤ maxLen ∧ Row _ _ 2 (some ⟨g2, 0, none⟩) (plainR L).length (clc (plainR L))
          rw [h2]
          exact ⟨by unfold maxLen at hqx ⊢; omega, h1⟩
      have HTAB := Lib.hid hTab
      have hz := hbel.size
      have hBa : Below wr.heap.size wr (wr.alloc (.cells #[.slice (some ⟨g2, 0, none⟩) j c2] 43)) := (Below.refl _ _).alloc (Nat.le_refl _) _
      have hR2r := (HR2.out.then_ hbel).then_ hBa
      have hBB := below_then (Nat.le_refl _) hB hBa
      clear hTab hTL hlen
      go_wp2_with fail
      ((with_reducible refine ((columnWidths_i _ _ _ (j : Int) [plainR L] _ (by unfold maxLen; omega) ?_).mono fun _ _ h => ints_form HAG.out HQ.out h).mono ?_); (exact HTAB.out); rintro e w5 ⟨P5, d5, rfl, o5, hb5⟩)
      have hB5 := below_then (Nat.le_refl _) hBB hb5
      have HR5 := Lib.hid o5.row
      have HRL := Lib.hid (hR2r.then_ hb5)
      clear o5 hR2r
      go_wp2_with fail
      go_loopg [9] j (fun kk i wr => ∃ i' : Nat, i' ≤ j ∧ kk = j - i' ∧ i = .int .i64 i' ∧ Below w5.heap.size w5 wr)
      case atStart => exact ⟨0, Nat.zero_le _, rfl, rfl, Below.refl _ _⟩
      case round =>
        obtain ⟨i', hj', hk', rfl, hbel'⟩ := hrel
        have HK' := Lib.hid hk'; clear hk'
        have hsz' := hbel'.size
        by_cases hlt' : i' < j
        · obtain ⟨b', off', hA', hb', hc'⟩ := HR5.out.at1 (by omega)
          have d0 : wr.cell? ⟨b', off' + i', none⟩ = _ := (hbel'.cell (p := ⟨b', off' + i', none⟩) hb').trans (hc' i' hlt')
          obtain ⟨b, off, hA, hb, hc⟩ := HRL.out.at1 (by omega)
          have c0 : wr.cell? ⟨b, off + i', none⟩ = _ := (hbel'.cell (p := ⟨b, off + i', none⟩) hb).trans (hc i' hlt')
          subst hA' hA
          obtain ⟨y, hy⟩ : ∃ y, L.getD i' default = y := ⟨_, rfl⟩
          have hyb := (HLB.out y (mem_of_getD HQ.out hlt' hy)).2
          simp only [inc, hy] at c0 d0
          clear hc hc' hy
          have hltI : (i' : Int) < (j : Int) := by omega
          go_wp2_with fail
          go_region
          all_goals
            go_wp2_with fail
            go_roundg (j - (i' + 1))
            case measure => have := HK'.out; omega
            case rel => exact ⟨i' + 1, by omega, rfl, by go_num, by (repeat' (first | (with_reducible exact Below.refl _ _) | (with_reducible assumption) | (with_reducible refine Below.alloc ?_ ?_ _) | (with_reducible refine Below.drew ?_) | (with_reducible refine below_drewN ?_ _) | (with_reducible refine Below.setCell ?_ ?_ _) | (with_reducible refine below_then ?_ ?_ (by with_reducible assumption)) | (with_reducible exact Nat.le_refl _) | go_size | (simp only [*]; done)))⟩
        · go_wp2_with fail
          go_returns
          exact ⟨rfl, below_then (Nat.le_refl _) hB5 hbel'⟩
end Go.Proofs.Ytbkhimdebpllcaa
