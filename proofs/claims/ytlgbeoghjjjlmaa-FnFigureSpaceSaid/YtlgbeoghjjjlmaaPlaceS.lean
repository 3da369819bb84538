/- PlaceFigures of the reference returns what the plain function says. Conditions: the slices read as lists; the slice of spaces is not nil. -/
import Derived.Test.YtlgbeoghjjjlmaaPlaceI
import Derived.Test.YtlgbeoghjjjlmaaDrawInts
namespace Go.Proofs.Ytlgbeoghjjjlmaa
open Go.RowKit

set_option maxHeartbeats 8000000 in
theorem place_s (A : Option Addr) (n cap bs os m cs : Nat) (xs : List Fg) (ss : List Int) (w : World) (hn : xs.length = n) (hm : n ≤ maxLen) (hr : Row w w.heap.size 2 A n (fgc xs))
    (hs : ss.length = m) (hms : m ≤ 1048576) (hrs : Row w w.heap.size 1 (some ⟨bs, os, none⟩) m (inc ss)) :
    Calls Try.prog 40 #[.slice A n cap, .slice (some ⟨bs, os, none⟩) m cs] w (IntsOk w (placeV xs ss).1 (placeV xs ss).2) := by
  obtain ⟨j0, ji, jz0, jz1, jz2⟩ := info_parts int_info
  have hmx : m ≤ maxLen := by unfold maxLen; omega
  have hb0 : Below w.heap.size w (w.alloc (.cells #[] 3)) := (Below.refl _ _).alloc (Nat.le_refl _) _
  have hr0 := Lib.hid (hr.alloc' (.cells #[] 3))
  have hrs0 := Lib.hid (hrs.alloc' (.cells #[] 3))
  have hE0 := Lib.hid (own_nil _ w.heap.size w.heap.size (Blk.new w 3 #[]) (Nat.le_refl _))
  have HR := Lib.hid hr
  have HRS := Lib.hid hrs
  clear hr hrs
  rcases h1 : figsOk xs with _ | _
  · have E := Lib.hid (place_b1 (ss := ss) h1)
    go_enter Try.func40, Try.ntmps40
    go_wp2_with fail
    ((with_reducible refine (validFloats_s _ _ _ xs _ hn hm ?_).mono ?_); (exact hr0.out); rintro e w1 ⟨rfl, hb1⟩)
    rw [h1]
    go_wp2
    (first | go_returns | (refine bodyPost_ret (by simp [results, Try.results40, go_sem, *]; try rfl) rfl ?_))
    exact ⟨none, 0, by rw [E.out]; rfl, by rw [E.out]; exact ⟨rfl, .inl ⟨rfl, rfl⟩⟩, (below_then (by simp) hb0 hb1)⟩
  rcases h2 : spaceOk ss with _ | _
  · have E := Lib.hid (place_b2 (xs := xs) h2)
    go_enter Try.func40, Try.ntmps40
    go_wp2_with fail
    ((with_reducible refine (validFloats_s _ _ _ xs _ hn hm ?_).mono ?_); (exact hr0.out); rintro e w1 ⟨rfl, hb1⟩)
    rw [h1]
    go_wp2_with fail
    ((with_reducible refine (validSpace_s _ _ _ ss _ hs hmx ?_).mono ?_); (exact hrs0.out.then_ hb1); rintro e w2 ⟨rfl, hb2⟩)
    rw [h2]
    go_wp2
    (first | go_returns | (refine bodyPost_ret (by simp [results, Try.results40, go_sem, *]; try rfl) rfl ?_))
    exact ⟨none, 0, by rw [E.out]; rfl, by rw [E.out]; exact ⟨rfl, .inl ⟨rfl, rfl⟩⟩, below_then (Nat.le_refl _) (below_then (by simp) hb0 hb1) hb2⟩
  have hl := figs_len h1
  rw [hn] at hl
  have hm12 := (space_iff h2).1
  rw [hs] at hm12
  have HOK := Lib.hid h1
  have HSO := Lib.hid h2
  have HN := Lib.hid hn
  have HS := Lib.hid hs
  clear h1 h2 hn hs
  go_enter Try.func40, Try.ntmps40
  go_wp2_with fail
  ((with_reducible refine (validFloats_s _ _ _ xs _ HN.out hm ?_).mono ?_); (exact hr0.out); rintro e w1 ⟨rfl, hb1⟩)
  rw [HOK.out]
  have hB1 := (below_then (by simp) hb0 hb1)
  go_wp2_with fail
  ((with_reducible refine (validSpace_s _ _ _ ss _ HS.out hmx ?_).mono ?_); (exact hrs0.out.then_ hb1); rintro e w2 ⟨rfl, hb2⟩)
  rw [HSO.out]
  have hB2 := below_then (Nat.le_refl _) hB1 hb2
  have hz2 := hB2.size
  have HC := Lib.hid (row_cells HS.out (((HRS.out.below hB2).more hB2.size).alloc' (.cells #[] 3)))
  have HL := Lib.hid (show (inl ss).length = m * 1 by rw [inl_len, HS.out]; omega)
  have HE := Lib.hid (owns_nil _ w2.heap.size 3 1 0 _ _ (Blk.new w2 3 #[]) (Nat.le_refl _) (by unfold maxLen; omega) rfl)
  have HSS := Lib.hid (show w2.heap.size ≤ (w2.alloc (.cells #[] 3)).heap.size by simp)
  have hz1 := hb1.size
  simp at hz1
  have hE2 := Lib.hid ((OwnI.then_ hE0.out hb1).then_ hb2)
  have hlt2 := (hE2.out.lt w.heap.size rfl).2
  go_wp2_with (at_builtin; (refine wpList_append_row _ rfl _ _ 22 rfl w2.heap.size 3 j0 _ 1 8 Try.underlying22 ji jz0 jz1 jz2 rfl (by omega) w2.heap.size 0 0 [] rfl HE.out bs os m cs (inl ss) rfl HL.out HC.out (inl_one _) (by omega) (by omega) HSS.out ?_); intro g c w3 hown6 hgr6)
  have h6 := hown6
  rw [Nat.zero_add, List.nil_append] at h6
  have hb3 : Below w2.heap.size w2 w3 := ((Below.refl _ _).alloc (Nat.le_refl _) _).grown hgr6 (by simp) (fun k hk => by injection hk; omega)
  have HO3 := Lib.hid (show OwnI w3 w2.heap.size (some ⟨g, 0, none⟩) m c ss from h6)
  have hB3 := below_then (Nat.le_refl _) hB2 hb3
  have hgb := (HO3.out.lt g rfl).1
  have hE := Lib.hid (OwnI.then_ hE2.out hb3)
  clear hown6 hgr6 h6
  go_wp2_with fail
  go_loopg [6, 8, 9] n (fun kk ov pv iv wr => ∃ (j pg q d : Nat) (O : Option Addr) (l out : List Int), j ≤ n ∧ kk = n - j ∧ iv = .int .i64 j ∧ pv = .int .i64 (pg : Int) ∧ ov = .slice O q d ∧ Hid (plF xs ss j = some (l, pg, out)) ∧ Hid (OwnI wr w2.heap.size (some ⟨g, 0, none⟩) m c l) ∧ Hid (OwnI wr w.heap.size O q d out) ∧ (∀ y, O = some y → y.block ≠ g) ∧ Below w.heap.size w wr)
  case atStart => exact ⟨0, 0, 0, 0, (some ⟨w.heap.size, 0, none⟩), ss, [], Nat.zero_le _, rfl, by go_num, rfl, rfl, rfl, HO3.out, hE.out, (by intro y hy; cases hy; simp; omega), hB3⟩
  case round =>
    obtain ⟨j, pg, q, d, O, l, out, hj, hk, rfl, rfl, rfl, hpl, hown, hout, hne, hbel⟩ := hrel
    have HK := Lib.hid hk; clear hk
    obtain ⟨wo, hwo⟩ : ∃ wo : World, wo = wr := ⟨_, rfl⟩
    subst hwo
    have hsz := hbel.size
    obtain ⟨hll, hlb, hpgm, hoj⟩ := pl_inv HOK.out HN.out HS.out HSO.out j hj l pg out hpl.out
    have HLL := Lib.hid hll
    have HLB := Lib.hid hlb
    have HOJ := Lib.hid hoj
    have HNE := Lib.hid hne
    have hgl := (hown.out.lt g rfl).2
    have hqj : q ≤ 10 := by have := hout.out.len; omega
    clear hll hlb hoj hne
    by_cases hlt : j < n
    · obtain ⟨b1, o1, hA1, hbb1, hc1⟩ := HR.out (by omega)
      have c0 : wo.cell? ⟨b1, o1 + j * 2, none⟩ = _ := (hbel.cell (p := ⟨b1, o1 + j * 2, none⟩) hbb1).trans (hc1 j 0 hlt (by omega))
      have c1 : wo.cell? ⟨b1, o1 + j * 2 + 1, none⟩ = _ := (hbel.cell (p := ⟨b1, o1 + j * 2 + 1, none⟩) hbb1).trans (hc1 j 1 hlt (by omega))
      subst hA1
      obtain ⟨x, hx⟩ : ∃ x, xs.getD j default = x := ⟨_, rfl⟩
      simp only [fgc, hx] at c0 c1
      obtain ⟨⟨a1, a2⟩, q1, q2⟩ := fig_at HOK.out HN.out hlt hx
      have hltn : (j : Int) < (n : Int) := by omega
      have hbw1 : b1 < wo.heap.size := by omega
      obtain ⟨P, hP⟩ : ∃ P, pgFind l x.a (max pg x.b.toNat) = P := ⟨_, rfl⟩
      have hnx := pl_next HLL.out hx hpl.out hP
      obtain ⟨fb, hfb⟩ := Int.eq_ofNat_of_zero_le q1
      have hmaxn : x.b.toNat = fb := by omega
      rw [hmaxn] at hP
      rw [hfb] at c1 q2
      have HNX := Lib.hid hnx
      clear hx hc1 hnx hfb hmaxn q1
      by_cases hmx : pg < fb
      · have hmx' : (pg : Int) < (fb : Int) := by omega
        have hmx1 : max pg fb = fb := by omega
        rw [hmx1] at hP
        have HP := Lib.hid hP
        clear hP hmx1
        go_wp2_with fail
        go_loopg [8] (m + 12 - fb) (fun kk pv wi => ∃ (p nq : Nat), kk = m + 12 - p ∧ pv = .int .i64 (p : Int) ∧ p ≤ 12 + m ∧ Hid (pgFind l x.a p = P) ∧ wi = wo.drewN nq)
        case atStart => exact ⟨fb, 0, rfl, rfl, by omega, HP.out, rfl⟩
        case round =>
          obtain ⟨p, nq, hk2, rfl, hp12, hfind, rfl⟩ := hrel
          have HK2 := Lib.hid hk2; clear hk2
          by_cases hpm : p < m
          · have hpm' : (p : Int) < (m : Int) := by omega
            obtain ⟨y, hy⟩ : ∃ y, l.getD p default = y := ⟨_, rfl⟩
            obtain ⟨y0, y1⟩ := HLB.out y (mem_of_getD HLL.out hpm hy)
            have o0 := hown.out.cellI hpm
            rw [hy] at o0
            have oX := o0
            have fX := hown.out.frozenAt p
            have w2' : IntKind.i64.wrap (y - x.a) = y - x.a := IntWalk.i64_in _ (by omega)
            have hgne : ¬ g = b1 := by omega
            have hgne2 : ¬ b1 = g := by omega
            by_cases hya : y < x.a
            · have hd : decide (y < x.a) = true := decide_eq_true hya
              have hnf := pgFind_next HLL.out hpm hy hya
              have HNF := Lib.hid hnf
              clear hy hnf
              go_wp2_with fail
              go_quiet (fail)
              go_wp2_with fail
              go_roundg (m + 12 - (p + 1))
              case measure => have := HK2.out; omega
              case rel => exact ⟨p + 1, _, rfl, by go_num, by omega, (by show _ = _; rw [← HNF.out]; exact hfind.out), rfl⟩
            · have hd : decide (y < x.a) = false := decide_eq_false hya
              have hPp : p = P := by rw [← hfind.out]; exact (pgFind_stop HLL.out hpm hy (by omega)).symm
              have hnx := HNX.out
              rw [← hPp, if_pos hpm, hy] at hnx
              have HNX2 := Lib.hid hnx
              have hpm2 : ¬ (m : Int) ≤ (p : Int) := by omega
              have hAk : ∀ k : Nat, OwnI (((wo.drewN k).setCell ⟨g, p, none⟩ (.int .i64 (y - x.a))).alloc (.cells #[.int .i64 (p : Int)] 3)) w.heap.size O q d out ∧ OwnI (((wo.drewN k).setCell ⟨g, p, none⟩ (.int .i64 (y - x.a))).alloc (.cells #[.int .i64 (p : Int)] 3)) w2.heap.size (some ⟨g, 0, none⟩) m c (l.set p (y - x.a)) ∧ Blk (((wo.drewN k).setCell ⟨g, p, none⟩ (.int .i64 (y - x.a))).alloc (.cells #[.int .i64 (p : Int)] 3)) (wo.heap.size) 3 #[.int .i64 (p : Int)] ∧ Below w.heap.size w (((wo.drewN k).setCell ⟨g, p, none⟩ (.int .i64 (y - x.a))).alloc (.cells #[.int .i64 (p : Int)] 3)) ∧ w.heap.size ≤ (((wo.drewN k).setCell ⟨g, p, none⟩ (.int .i64 (y - x.a))).alloc (.cells #[.int .i64 (p : Int)] 3)).heap.size ∧ g < (((wo.drewN k).setCell ⟨g, p, none⟩ (.int .i64 (y - x.a))).alloc (.cells #[.int .i64 (p : Int)] 3)).heap.size := fun k =>
                ⟨OwnI.alloc (OwnI.other (OwnI.drewN hout.out k) (fun y hy => HNE.out y hy) _) _, OwnI.alloc (OwnI.stored (OwnI.drewN hown.out k) _) _, Blk.new_at _ _ _ _ (by simp [World.setCell]), by (repeat' (first | (with_reducible exact Below.refl _ _) | (with_reducible assumption) | (with_reducible refine Below.alloc ?_ ?_ _) | (with_reducible refine Below.drew ?_) | (with_reducible refine below_drewN ?_ _) | (with_reducible refine Below.setCell ?_ ?_ _) | (with_reducible refine below_then ?_ ?_ (by with_reducible assumption)) | (with_reducible exact Nat.le_refl _) | go_size | (simp only [*]; done))), by simp [World.setCell]; omega, by simp [World.setCell]; omega⟩
              have HAK := Lib.hid hAk
              have hLk : ∀ (k : Nat) w4, (((wo.drewN k).setCell ⟨g, p, none⟩ (.int .i64 (y - x.a))).alloc (.cells #[.int .i64 (p : Int)] 3)).grownBy w4 (Value.ownBlock (.slice O q d)) → OwnI w4 w2.heap.size (some ⟨g, 0, none⟩) m c (l.set p (y - x.a)) ∧ Below w.heap.size w w4 := fun k w4 hg =>
                ⟨OwnI.apart (hAk k).2.1 hg (fun x hx y hy => by cases hx; exact (HNE.out y hy).symm), (hAk k).2.2.2.1.grown hg (hAk k).2.2.2.2.1 (fun z hz => ((hAk k).1.block z hz).1)⟩
              have HLK := Lib.hid hLk
              have hNk : ∀ (k : Nat) g', (Value.ownBlock (.slice O q d) = some g' ∨ g' = (((wo.drewN k).setCell ⟨g, p, none⟩ (.int .i64 (y - x.a))).alloc (.cells #[.int .i64 (p : Int)] 3)).heap.size) → ∀ y, some (⟨g', 0, none⟩ : Addr) = some y → y.block ≠ g := fun k g' h y hy => by
                cases hy
                rcases h with h | h
                · cases O with
                  | none => simp [Value.ownBlock] at h
                  | some z => have := HNE.out z rfl; simp [Value.ownBlock] at h; simp only; omega
                · have := (hAk k).2.2.2.2.2; simp only; omega
              have HNK := Lib.hid hNk
              clear hy hPp hnx hya hAk hLk hNk
              go_wp2_with fail
              go_quiet (fail)
              go_wp2_with fail
              go_region
              all_goals
                go_wp2_with (at_builtin; (refine wpList_append_one_at _ rfl _ _ 22 rfl w.heap.size 3 j0 _ 1 8 Try.underlying22 ji jz0 jz1 jz2 rfl (by omega) O q d (inl out) rfl (HAK.out _).1 (wo.heap.size) (inl [(p : Int)]) rfl rfl (HAK.out _).2.2.1 (inl_one _) (by omega) (by omega) (HAK.out _).2.2.2.2.1 ?_); intro g' d' w4 hown4 hgr4 hat4; have HO4 := Lib.hid hown4; obtain ⟨hl4, hb4⟩ := HLK.out _ w4 hgr4; have hn4 := Lib.hid (HNK.out _ g' hat4); have HL4 := Lib.hid hl4; clear hown4 hgr4 hat4 hl4)
                go_roundg (n - (j + 1))
                case measure => have := HK.out; omega
                case rel =>
                  refine ⟨j + 1, p, q + 1, d', some ⟨g', 0, none⟩, l.set p (y - x.a), out ++ [(p : Int)], by omega, rfl, by go_num, rfl, by go_num, HNX2.out, HL4.out, ?_, hn4.out, hb4⟩
                  show World.ownsRow _ _ _ _ _ _ _
                  rw [inl_snoc]; exact HO4.out
          · have hPp : p = P := by rw [← hfind.out]; exact (pgFind_end HLL.out (by omega)).symm
            have hnx := HNX.out
            rw [← hPp, if_neg (by omega)] at hnx
            have E := Lib.hid (place_no (ss := ss) HN.out (show j + 1 ≤ n by omega) hnx)
            have hpm2 : (m : Int) ≤ (p : Int) := by omega
            clear hPp hnx
            go_wp2_with fail
            go_quiet (fail)
            go_wp2_with fail
            (first | go_returns | (refine bodyPost_ret (by simp [results, Try.results40, go_sem, *]; try rfl) rfl ?_))
            exact ⟨none, 0, by rw [E.out]; rfl, by rw [E.out]; exact ⟨rfl, .inl ⟨rfl, rfl⟩⟩, by (repeat' (first | (with_reducible exact Below.refl _ _) | (with_reducible assumption) | (with_reducible refine Below.alloc ?_ ?_ _) | (with_reducible refine Below.drew ?_) | (with_reducible refine below_drewN ?_ _) | (with_reducible refine Below.setCell ?_ ?_ _) | (with_reducible refine below_then ?_ ?_ (by with_reducible assumption)) | (with_reducible exact Nat.le_refl _) | go_size | (simp only [*]; done)))⟩
      · have hmx' : (fb : Int) ≤ (pg : Int) := by omega
        have hmx1 : max pg fb = pg := by omega
        rw [hmx1] at hP
        have HP := Lib.hid hP
        clear hP hmx1
        go_wp2_with fail
        go_loopg [8] (m + 12 - pg) (fun kk pv wi => ∃ (p nq : Nat), kk = m + 12 - p ∧ pv = .int .i64 (p : Int) ∧ p ≤ 12 + m ∧ Hid (pgFind l x.a p = P) ∧ wi = wo.drewN nq)
        case atStart => exact ⟨pg, 0, rfl, rfl, by omega, HP.out, rfl⟩
        case round =>
          obtain ⟨p, nq, hk2, rfl, hp12, hfind, rfl⟩ := hrel
          have HK2 := Lib.hid hk2; clear hk2
          by_cases hpm : p < m
          · have hpm' : (p : Int) < (m : Int) := by omega
            obtain ⟨y, hy⟩ : ∃ y, l.getD p default = y := ⟨_, rfl⟩
            obtain ⟨y0, y1⟩ := HLB.out y (mem_of_getD HLL.out hpm hy)
            have o0 := hown.out.cellI hpm
            rw [hy] at o0
            have oX := o0
            have fX := hown.out.frozenAt p
            have w2' : IntKind.i64.wrap (y - x.a) = y - x.a := IntWalk.i64_in _ (by omega)
            have hgne : ¬ g = b1 := by omega
            have hgne2 : ¬ b1 = g := by omega
            by_cases hya : y < x.a
            · have hd : decide (y < x.a) = true := decide_eq_true hya
              have hnf := pgFind_next HLL.out hpm hy hya
              have HNF := Lib.hid hnf
              clear hy hnf
              go_wp2_with fail
              go_quiet (fail)
              go_wp2_with fail
              go_roundg (m + 12 - (p + 1))
              case measure => have := HK2.out; omega
              case rel => exact ⟨p + 1, _, rfl, by go_num, by omega, (by show _ = _; rw [← HNF.out]; exact hfind.out), rfl⟩
            · have hd : decide (y < x.a) = false := decide_eq_false hya
              have hPp : p = P := by rw [← hfind.out]; exact (pgFind_stop HLL.out hpm hy (by omega)).symm
              have hnx := HNX.out
              rw [← hPp, if_pos hpm, hy] at hnx
              have HNX2 := Lib.hid hnx
              have hpm2 : ¬ (m : Int) ≤ (p : Int) := by omega
              have hAk : ∀ k : Nat, OwnI (((wo.drewN k).setCell ⟨g, p, none⟩ (.int .i64 (y - x.a))).alloc (.cells #[.int .i64 (p : Int)] 3)) w.heap.size O q d out ∧ OwnI (((wo.drewN k).setCell ⟨g, p, none⟩ (.int .i64 (y - x.a))).alloc (.cells #[.int .i64 (p : Int)] 3)) w2.heap.size (some ⟨g, 0, none⟩) m c (l.set p (y - x.a)) ∧ Blk (((wo.drewN k).setCell ⟨g, p, none⟩ (.int .i64 (y - x.a))).alloc (.cells #[.int .i64 (p : Int)] 3)) (wo.heap.size) 3 #[.int .i64 (p : Int)] ∧ Below w.heap.size w (((wo.drewN k).setCell ⟨g, p, none⟩ (.int .i64 (y - x.a))).alloc (.cells #[.int .i64 (p : Int)] 3)) ∧ w.heap.size ≤ (((wo.drewN k).setCell ⟨g, p, none⟩ (.int .i64 (y - x.a))).alloc (.cells #[.int .i64 (p : Int)] 3)).heap.size ∧ g < (((wo.drewN k).setCell ⟨g, p, none⟩ (.int .i64 (y - x.a))).alloc (.cells #[.int .i64 (p : Int)] 3)).heap.size := fun k =>
                ⟨OwnI.alloc (OwnI.other (OwnI.drewN hout.out k) (fun y hy => HNE.out y hy) _) _, OwnI.alloc (OwnI.stored (OwnI.drewN hown.out k) _) _, Blk.new_at _ _ _ _ (by simp [World.setCell]), by (repeat' (first | (with_reducible exact Below.refl _ _) | (with_reducible assumption) | (with_reducible refine Below.alloc ?_ ?_ _) | (with_reducible refine Below.drew ?_) | (with_reducible refine below_drewN ?_ _) | (with_reducible refine Below.setCell ?_ ?_ _) | (with_reducible refine below_then ?_ ?_ (by with_reducible assumption)) | (with_reducible exact Nat.le_refl _) | go_size | (simp only [*]; done))), by simp [World.setCell]; omega, by simp [World.setCell]; omega⟩
              have HAK := Lib.hid hAk
              have hLk : ∀ (k : Nat) w4, (((wo.drewN k).setCell ⟨g, p, none⟩ (.int .i64 (y - x.a))).alloc (.cells #[.int .i64 (p : Int)] 3)).grownBy w4 (Value.ownBlock (.slice O q d)) → OwnI w4 w2.heap.size (some ⟨g, 0, none⟩) m c (l.set p (y - x.a)) ∧ Below w.heap.size w w4 := fun k w4 hg =>
                ⟨OwnI.apart (hAk k).2.1 hg (fun x hx y hy => by cases hx; exact (HNE.out y hy).symm), (hAk k).2.2.2.1.grown hg (hAk k).2.2.2.2.1 (fun z hz => ((hAk k).1.block z hz).1)⟩
              have HLK := Lib.hid hLk
              have hNk : ∀ (k : Nat) g', (Value.ownBlock (.slice O q d) = some g' ∨ g' = (((wo.drewN k).setCell ⟨g, p, none⟩ (.int .i64 (y - x.a))).alloc (.cells #[.int .i64 (p : Int)] 3)).heap.size) → ∀ y, some (⟨g', 0, none⟩ : Addr) = some y → y.block ≠ g := fun k g' h y hy => by
                cases hy
                rcases h with h | h
                · cases O with
                  | none => simp [Value.ownBlock] at h
                  | some z => have := HNE.out z rfl; simp [Value.ownBlock] at h; simp only; omega
                · have := (hAk k).2.2.2.2.2; simp only; omega
              have HNK := Lib.hid hNk
              clear hy hPp hnx hya hAk hLk hNk
              go_wp2_with fail
              go_quiet (fail)
              go_wp2_with fail
              go_region
              all_goals
                go_wp2_with (at_builtin; (refine wpList_append_one_at _ rfl _ _ 22 rfl w.heap.size 3 j0 _ 1 8 Try.underlying22 ji jz0 jz1 jz2 rfl (by omega) O q d (inl out) rfl (HAK.out _).1 (wo.heap.size) (inl [(p : Int)]) rfl rfl (HAK.out _).2.2.1 (inl_one _) (by omega) (by omega) (HAK.out _).2.2.2.2.1 ?_); intro g' d' w4 hown4 hgr4 hat4; have HO4 := Lib.hid hown4; obtain ⟨hl4, hb4⟩ := HLK.out _ w4 hgr4; have hn4 := Lib.hid (HNK.out _ g' hat4); have HL4 := Lib.hid hl4; clear hown4 hgr4 hat4 hl4)
                go_roundg (n - (j + 1))
                case measure => have := HK.out; omega
                case rel =>
                  refine ⟨j + 1, p, q + 1, d', some ⟨g', 0, none⟩, l.set p (y - x.a), out ++ [(p : Int)], by omega, rfl, by go_num, rfl, by go_num, HNX2.out, HL4.out, ?_, hn4.out, hb4⟩
                  show World.ownsRow _ _ _ _ _ _ _
                  rw [inl_snoc]; exact HO4.out
          · have hPp : p = P := by rw [← hfind.out]; exact (pgFind_end HLL.out (by omega)).symm
            have hnx := HNX.out
            rw [← hPp, if_neg (by omega)] at hnx
            have E := Lib.hid (place_no (ss := ss) HN.out (show j + 1 ≤ n by omega) hnx)
            have hpm2 : (m : Int) ≤ (p : Int) := by omega
            clear hPp hnx
            go_wp2_with fail
            go_quiet (fail)
            go_wp2_with fail
            (first | go_returns | (refine bodyPost_ret (by simp [results, Try.results40, go_sem, *]; try rfl) rfl ?_))
            exact ⟨none, 0, by rw [E.out]; rfl, by rw [E.out]; exact ⟨rfl, .inl ⟨rfl, rfl⟩⟩, by (repeat' (first | (with_reducible exact Below.refl _ _) | (with_reducible assumption) | (with_reducible refine Below.alloc ?_ ?_ _) | (with_reducible refine Below.drew ?_) | (with_reducible refine below_drewN ?_ _) | (with_reducible refine Below.setCell ?_ ?_ _) | (with_reducible refine below_then ?_ ?_ (by with_reducible assumption)) | (with_reducible exact Nat.le_refl _) | go_size | (simp only [*]; done)))⟩
    · have hjn : j = n := by omega
      have hfin := place_yes HOK.out HSO.out HN.out (by have := hpl.out; rwa [hjn] at this)
      have E := Lib.hid hfin
      have hlen := hout.out.len
      have HLEN := Lib.hid hlen
      clear hfin hlen hjn
      go_wp2_with fail
      (first | go_returns | (refine bodyPost_ret (by simp [results, Try.results40, go_sem, *]; try rfl) rfl ?_))
      refine ⟨O, d, by rw [E.out]; show _ = Ending.returned (.tuple #[.slice O out.length d, .bool true]); rw [HLEN.out]; rfl, ?_, hbel⟩
      rw [E.out]
      show OwnI _ w.heap.size O out.length d out
      rw [HLEN.out]
      exact hout.out
end Go.Proofs.Ytlgbeoghjjjlmaa
