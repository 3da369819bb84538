/- The law on counted paragraphs answers true: FnCountWidows. Conditions: the code is a slice of bytes. -/
import Derived.Test.YtlgbeoghjjjlmaaWidowPlain
import Derived.Test.YtlgbeoghjjjlmaaCountDraw
namespace Go.Proofs.Ytlgbeoghjjjlmaa
open Go.RowKit

set_option maxHeartbeats 4000000 in
theorem law_CountWidows (A : Option Addr) (n cap : Nat) (cs : List Int) (w : World) (hc : Code w A n cap cs) :
    Calls Try.prog 7 #[.slice A n cap] w fun e w' => e = .returned (.bool true) ∧ Below w.heap.size w w' := by
  obtain ⟨i0, hi, hi0, hi1, hi2⟩ := info_parts int_info
  have hn := hc.1
  unfold maxLen at hn
  by_cases hbig : 1048576 < n
  · go_enter Try.func7, Try.ntmps7
    go_wp2
    go_returns
    exact ⟨rfl, Below.refl _ _⟩
  go_enter Try.func7, Try.ntmps7
  go_wp2_with fail
  ((with_reducible refine (DrawCountWidows_any _ _ _ cs _ hc).mono ?_); rintro e w1 ⟨B, B2, m, c, m2, c2, xs, ys, rfl, hx, hm, hy, hm2, hr1, hq1, hb1⟩)
  have HX := Lib.hid hx; clear hx
  have HY := Lib.hid hy; clear hy
  have hmx : m ≤ maxLen := by unfold maxLen; omega
  have hmy : m2 ≤ maxLen := by unfold maxLen; omega
  have hz1 := hb1.size
  obtain ⟨a, ha⟩ : ∃ a, (countW xs ys).1 = a := ⟨_, rfl⟩
  obtain ⟨b, hb⟩ : ∃ b, (countW xs ys).2 = b := ⟨_, rfl⟩
  have hle := (countW_le xs ys).2
  have HLE := Lib.hid hle
  have HA := Lib.hid ha
  have HB := Lib.hid hb
  clear ha hb hle
  go_wp2_with fail
  ((with_reducible refine (countW_i _ _ _ _ _ _ xs ys _ HX.out hmx ?_ HY.out hmy ?_).mono ?_); (exact hr1); (exact hq1); rintro e w2 ⟨rfl, hb2⟩)
  rw [HA.out, HB.out]
  have hr2 := hr1.then_ hb2
  have hq2 := hq1.then_ hb2
  have hz2' := hb2.size
  go_wp2_with fail
  ((with_reducible refine (countW_s _ _ _ _ _ _ xs ys _ HX.out hmx ?_ HY.out hmy ?_).mono ?_); (exact hr2); (exact hq2); rintro e w3 ⟨rfl, hb3⟩)
  rw [HA.out, HB.out]
  have hr3 := hr2.then_ hb3
  have hz3 := hb3.size
  have hB3 : Below w.heap.size w w3 := by (repeat' (first | (with_reducible exact Below.refl _ _) | (with_reducible assumption) | (with_reducible refine Below.alloc ?_ ?_ _) | (with_reducible refine Below.drew ?_) | (with_reducible refine below_drewN ?_ _) | (with_reducible refine Below.setCell ?_ ?_ _) | (with_reducible refine below_then ?_ ?_ (by with_reducible assumption)) | (with_reducible exact Nat.le_refl _) | go_size | (simp only [*]; done)))
  clear hq1 hq2
  by_cases hneg : a < 0
  · go_wp2_with fail
    go_returns
    exact ⟨rfl, hB3⟩
  have hok : sizesOk xs = true := by
    rcases h : sizesOk xs with _ | _
    · have := HA.out
      rw [countW, h] at this
      simp at this
      omega
    · rfl
  obtain ⟨S, hS⟩ : ∃ S : Nat, xs.sum = S := Int.eq_ofNat_of_zero_le (by have := sum_pos (sizes_ok hok).1; omega)
  have HOK := Lib.hid hok
  have HS := Lib.hid hS
  have HR3 := Lib.hid hr3
  have hE := Lib.hid (own_nil _ w3.heap.size w3.heap.size (Blk.new w3 3 #[]) (Nat.le_refl _))
  have hbE : Below w3.heap.size w3 (w3.alloc (.cells #[] 3)) := (Below.refl _ _).alloc (Nat.le_refl _) _
  have h0 : (0 : Int) ≤ a := by omega
  clear hr1 hr2 hr3 hok hS hneg
  go_wp2_with fail
  go_loopg [9, 10, 11] m (fun k lg all i wr => ∃ (j q g d : Nat) (s : Int), j ≤ m ∧ k = m - j ∧ i = .int .i64 j ∧ lg = .int .i64 s ∧ all = .slice (some ⟨g, 0, none⟩) q d ∧ Hid ((xs.take j).sum = q) ∧ Hid (longOf (xs.take j) = s) ∧ 0 ≤ s ∧ s ≤ j ∧ Hid (OwnI wr w3.heap.size (some ⟨g, 0, none⟩) q d (upTo q)) ∧ Below w3.heap.size w3 wr)
  case atStart => exact ⟨0, 0, w3.heap.size, 0, 0, Nat.zero_le _, rfl, rfl, rfl, rfl, rfl, rfl, by omega, by omega, hE.out, hbE⟩
  case round =>
    obtain ⟨j, q, g, d, s, hj, hk, rfl, rfl, rfl, hsum, hlong, s0, s1, hown, hbel⟩ := hrel
    have HK := Lib.hid hk; clear hk
    obtain ⟨wo, hwo⟩ : ∃ wo : World, wo = wr := ⟨_, rfl⟩
    subst hwo
    have hsz := hbel.size
    by_cases hlt : j < m
    · obtain ⟨b', off, hBB, hb', hc'⟩ := HR3.out.at1 (by omega)
      have c00 := hc' j hlt
      subst hBB
      obtain ⟨x, hx⟩ : ∃ x, xs.getD j default = x := ⟨_, rfl⟩
      simp only [inc, hx] at c00
      have hcw := cw_all HOK.out HS.out j (by rw [HX.out]; omega)
      have hsz2 := size_at HOK.out HX.out hlt hx hcw
      rw [hsum.out] at hsz2
      obtain ⟨x1, x2, x3, x4⟩ := hsz2
      obtain ⟨xn, rfl⟩ := Int.eq_ofNat_of_zero_le (show 0 ≤ x by omega)
      have Hx := Lib.hid hx
      have hnext : (xs.take (j + 1)).sum = ((q + xn : Nat) : Int) := by
        rw [tk_snoc' HX.out hlt hx, sum_snoc, hsum.out]; omega
      have hnextl : longOf (xs.take (j + 1)) = s + bit (decide (1 < (xn : Int))) := by
        rw [tk_snoc' HX.out hlt hx, longOf_snoc, hlong.out]
      have HN := Lib.hid hnext
      have HC := Lib.hid c00
      have hltj : (j : Int) < (m : Int) := by omega
      have c0 : wo.cell? ⟨b', off + j, none⟩ = _ := (hbel.cell (p := ⟨b', off + j, none⟩) hb').trans c00
      by_cases h1 : 1 < (xn : Int)
      all_goals
        have HNL := Lib.hid hnextl
        clear hc' hx hcw hnext hnextl
        go_wp2_with fail
        go_loopg [10, 12] xn (fun kk all2 k2 wi => ∃ (t r g2 d2 : Nat), t ≤ xn ∧ kk = xn - t ∧ k2 = .int .i64 t ∧ all2 = .slice (some ⟨g2, 0, none⟩) r d2 ∧ Hid (q + t = r) ∧ Hid (OwnI wi w3.heap.size (some ⟨g2, 0, none⟩) r d2 (upTo r)) ∧ Below w3.heap.size w3 wi)
        case atStart => exact ⟨0, q, g, d, Nat.zero_le _, rfl, rfl, rfl, rfl, hown.out, hbel⟩
        case round =>
          obtain ⟨t, r, g2, d2, ht, hkt, rfl, rfl, hqr, howni, hbi⟩ := hrel
          have HKT := Lib.hid hkt; clear hkt
          have hszi := hbi.size
          have c1 : wr.cell? ⟨b', off + j, none⟩ = _ := (hbi.cell (p := ⟨b', off + j, none⟩) hb').trans HC.out
          by_cases htx : t < xn
          · have htx' : (t : Int) < (xn : Int) := by omega
            have hr40 : r ≤ 40 := by have := hqr.out; omega
            have HO := Lib.hid (howni.out.alloc (.cells #[.int .i64 ((r : Int) + 1)] 3))
            have HB2 := Lib.hid (Blk.new wr 3 #[.int .i64 ((r : Int) + 1)])
            have HSI := Lib.hid (show w3.heap.size ≤ (wr.alloc (.cells #[.int .i64 ((r : Int) + 1)] 3)).heap.size by simp; omega)
            go_wp2_with (at_builtin; (refine wpList_append_one _ rfl _ _ 22 rfl w3.heap.size 3 i0 _ 1 8 Try.underlying22 hi hi0 hi1 hi2 rfl (by omega) (some ⟨g2, 0, none⟩) r d2 (inl (upTo r)) rfl HO.out wr.heap.size (inl [(r : Int) + 1]) rfl rfl HB2.out (inl_one _) (by omega) (by omega) HSI.out ?_); intro g' d' w4 hown4 hgr4)
            have HO4 := Lib.hid hown4
            have hb4 : Below w3.heap.size w3 w4 := (hbi.alloc hszi _).grown hgr4 (by simp; omega) (fun k hk => by have := (HO.out.lt k hk).1; omega)
            clear hown4
            go_wp2_with fail
            go_roundg (xn - (t + 1))
            case measure => have := HKT.out; omega
            case rel =>
              refine ⟨t + 1, r + 1, g', d', by omega, rfl, by go_num, by go_num, (by have := hqr.out; show _ = _; omega), ?_, hb4⟩
              show World.ownsRow _ _ _ _ _ _ _
              rw [upTo_snoc, inl_snoc]; exact HO4.out
          · have hrq : r = q + xn := by have := hqr.out; omega
            subst hrq
            go_wp2_with fail
            go_roundg (m - (j + 1))
            case measure => have := HK.out; omega
            case rel =>
              first
              | exact ⟨j + 1, q + xn, g2, d2, s + 1, by omega, rfl, by go_num, rfl, rfl, HN.out, (by show _ = _; rw [HNL.out, bit, decide_eq_true h1]; rfl), by omega, by omega, howni.out, hbi⟩
              | exact ⟨j + 1, q + xn, g2, d2, s, by omega, rfl, by go_num, rfl, rfl, HN.out, (by show _ = _; rw [HNL.out, bit, decide_eq_false (by omega)]; simp), by omega, by omega, howni.out, hbi⟩
    · have ej : j = m := by omega
      have etk : xs.take j = xs := List.take_of_length_le (by rw [HX.out]; omega)
      have eq1 : q = S := by have h1 := hsum.out; have h2 := HS.out; rw [etk] at h1; omega
      have el : longOf xs = s := by have h1 := hlong.out; rwa [etk] at h1
      have eall : countW xs (upTo q) = (s, s) := by rw [eq1, countW_all HOK.out HS.out, el]
      have hle := HLE.out
      rw [HA.out, HB.out, el] at hle
      obtain ⟨le1, le2⟩ := hle
      have hq40 : q ≤ 40 := by have h1 := (sizes_ok HOK.out).2.1; have h2 := HS.out; omega
      have HALL := Lib.hid eall
      have hqx : q ≤ maxLen := by unfold maxLen; omega
      have hrow := HR3.out.then_ hbel
      have hB := below_then (Nat.le_refl _) hB3 hbel
      clear eall etk el eq1
      go_wp2_with fail
      ((with_reducible refine (countW_i _ _ _ _ _ _ xs (upTo q) _ HX.out hmx ?_ (upTo_len q) hqx ?_).mono ?_); (exact hrow); (exact hown.out.row); rintro e w5 ⟨rfl, hb5⟩)
      rw [HALL.out]
      go_wp2_with fail
      go_returns
      exact ⟨rfl, below_then (Nat.le_refl _) hB hb5⟩
end Go.Proofs.Ytlgbeoghjjjlmaa
