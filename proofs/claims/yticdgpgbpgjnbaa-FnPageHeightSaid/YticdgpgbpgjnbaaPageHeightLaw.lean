/- The law on the height of drawn pages answers true: FnPageHeight. Conditions: the code is a slice of bytes. -/
import Derived.Test.YticdgpgbpgjnbaaLinesDraw
import Derived.Test.YticdgpgbpgjnbaaPageHeight
namespace Go.Proofs.Yticdgpgbpgjnbaa
open Go.RowKit

def LinesTwoOut (w : World) (e : Ending) (w' : World) : Prop :=
  ∃ (g n c : Nat) (xs : List Ln) (f t : Int), e = .returned (.tuple #[.slice (some ⟨g, 0, none⟩) n c, .int .i64 f, .int .i64 t]) ∧ xs.length = n ∧ n ≤ 12 ∧ (n ≤ c ∧ c ≤ maxLen) ∧ (-100 ≤ f ∧ f ≤ 100 ∧ -200 ≤ t ∧ t ≤ 200) ∧ Row w' w'.heap.size 3 (some ⟨g, 0, none⟩) n (lnc xs) ∧ Below w.heap.size w w'

set_option maxHeartbeats 1000000 in
theorem DrawPageHeight_any (A : Option Addr) (n cap : Nat) (cs : List Int) (w : World) (hc : Code w A n cap cs) :
    Calls Try.prog 22 #[.slice A n cap] w (LinesTwoOut w) := by
  obtain ⟨h1, h2, h3, h4, h5⟩ := hc
  have HH := Lib.hid h4; clear h4
  go_enter Try.func22, Try.ntmps22
  go_wp2_with fail
  ((with_reducible refine (newReader_any _ _ _ cs _ h1 h2 h3 HH.out h5).mono ?_); rintro e w1 ⟨rfl, hr1, hb1⟩)
  have hs1 := hb1.size
  go_wp2_with fail
  ((with_reducible refine (anyLines_any _ _ _ hr1 (by omega)).mono ?_); rintro e w2 ⟨g, m, c, xs, p', rfl, hx, ⟨_, hm⟩, hown, hp, hr2, ho2⟩)
  have HX := Lib.hid hx; clear hx
  have hb2 : Below w.heap.size w w2 := hb1.trans (below_of_only ho2 (Nat.le_refl _) hs1)
  have hs2 := hb2.size
  have hgb := (hown.lt g rfl).1
  have hl1 := hr1.lt
  have hcp := own_cap hown
  have HCP := Lib.hid hcp; clear hcp
  go_wp2_with fail
  ((with_reducible refine (pick_any _ _ _ _ hr2 (by omega)).mono ?_); rintro e w3 ⟨x, rfl, hx0, hx1, hr3, ho3⟩)
  have hx2 := hx1 (by omega)
  clear hx1
  go_wp2_with fail
  ((with_reducible refine (pick_any _ _ _ _ hr3 (by omega)).mono ?_); rintro e w4 ⟨y, rfl, hy0, hy1, hr4, ho4⟩)
  have hy2 := hy1 (by omega)
  clear hy1
  go_wp2_with fail
  ((with_reducible refine (pick_any _ _ _ _ hr4 (by omega)).mono ?_); rintro e w5 ⟨z, rfl, hz0, hz1, hr5, ho5⟩)
  have hz2 := hz1 (by omega)
  clear hz1
  go_wp2_with fail
  ((with_reducible refine (pick_any _ _ _ _ hr5 (by omega)).mono ?_); rintro e w6 ⟨u, rfl, hu0, hu1, hr6, ho6⟩)
  have hu2 := hu1 (by omega)
  clear hu1
  have ho := only_trans (only_trans (only_trans ho3 ho4) ho5) ho6
  have hb6 : Below w.heap.size w w6 := hb2.trans (below_of_only ho (Nat.le_refl _) hs2)
  have hown6 := hown.kept ho (.inr (by simp [Value.ownBlock]; omega))
  have hrow : Row w6 w6.heap.size 3 (some ⟨g, 0, none⟩) m (lnc xs) := Row.owned hown6 fun i q hi hq => lnl_at i q (by rw [HX.out]; exact hi) hq
  have HRow := Lib.hid hrow
  clear hown hown6 hrow
  go_wp2_with fail
  (first | go_returns | (refine bodyPost_ret (by simp [results, Try.results22, go_sem, *]; try rfl) rfl ?_))
  exact ⟨g, m, c, xs, x - y, x - y + z - u, rfl, HX.out, hm, ⟨HCP.out.1, HCP.out.2.1⟩, ⟨by omega, by omega, by omega, by omega⟩, HRow.out, hb6⟩

set_option maxHeartbeats 4000000 in
theorem law_PageHeight (A : Option Addr) (n cap : Nat) (cs : List Int) (w : World) (hc : Code w A n cap cs) :
    Calls Try.prog 5 #[.slice A n cap] w fun e w' => e = .returned (.bool true) ∧ Below w.heap.size w w' := by
  have hn := hc.1
  unfold maxLen at hn
  by_cases hbig : 1048576 < n
  · go_enter Try.func5, Try.ntmps5
    go_wp2
    go_returns
    exact ⟨rfl, Below.refl _ _⟩
  go_enter Try.func5, Try.ntmps5
  go_wp2_with fail
  ((with_reducible refine (DrawPageHeight_any _ _ _ cs _ hc).mono ?_); rintro e w1 ⟨g, m, c, xs, f, t, rfl, hx, hm, hcp, ⟨f0, f1, t0, t1⟩, hr1, hb1⟩)
  have HX := Lib.hid hx; clear hx
  have HCP := Lib.hid hcp; clear hcp
  have hmx : m ≤ maxLen := by unfold maxLen; omega
  have hz1 := hb1.size
  obtain ⟨v, hv⟩ : ∃ v, heightV xs f t = v := ⟨_, rfl⟩
  have HV := Lib.hid hv; clear hv
  go_wp2_with fail
  ((with_reducible refine (heightV_i _ _ _ _ _ xs _ HX.out hmx HCP.out ?_).mono ?_); (exact hr1); rintro e w2 ⟨rfl, hb2⟩)
  rw [HV.out]
  have hr2 := hr1.then_ hb2
  have hz2 := hb2.size
  go_wp2_with fail
  ((with_reducible refine (heightV_s _ _ _ _ _ xs _ HX.out hmx ?_).mono ?_); (exact hr2); rintro e w3 ⟨rfl, hb3⟩)
  rw [HV.out]
  have hr3 := hr2.then_ hb3
  have hz3 := hb3.size
  have hB3 : Below w.heap.size w w3 := by (repeat' (first | (with_reducible exact Below.refl _ _) | (with_reducible assumption) | (with_reducible refine Below.alloc ?_ ?_ _) | (with_reducible refine Below.drew ?_) | (with_reducible refine below_drewN ?_ _) | (with_reducible refine Below.setCell ?_ ?_ _) | (with_reducible refine below_then ?_ ?_ (by with_reducible assumption)) | (with_reducible exact Nat.le_refl _) | go_size | (simp only [*]; done)))
  by_cases hneg : v < 0
  · go_wp2_with fail
    ((with_reducible refine (heightV_s _ _ _ _ _ xs _ HX.out hmx ?_).mono ?_); (exact hr3); rintro e w4 ⟨rfl, hb4⟩)
    rw [HV.out]
    go_wp2_with fail
    go_returns
    exact ⟨rfl, below_then (Nat.le_refl _) hB3 hb4⟩
  have hok : linesOk xs = true := by
    rcases h : linesOk xs with _ | _
    · have := HV.out; rw [height_bad h] at this; omega
    · rfl
  have hin : 0 ≤ f ∧ f ≤ t ∧ t ≤ m := by
    by_cases h : 0 ≤ f ∧ f ≤ t ∧ t ≤ (m : Int)
    · exact h
    · have := HV.out; rw [height_no HX.out h] at this; omega
  obtain ⟨g0, g1, g2⟩ := hin
  obtain ⟨fk, rfl⟩ := Int.eq_ofNat_of_zero_le g0
  obtain ⟨tk, rfl⟩ := Int.eq_ofNat_of_zero_le (show 0 ≤ t by omega)
  have hft : fk ≤ tk := by omega
  have htm : tk ≤ m := by omega
  have hpg : pageH (seg xs fk tk) = v := by rw [← HV.out, height_yes hok HX.out hft htm]
  have HPG := Lib.hid hpg
  have HOK := Lib.hid hok
  have HR3 := Lib.hid hr3
  clear hr1 hr2 hr3 hok hpg
  go_wp2_with fail
  go_loopg [7, 8, 9] (tk - fk) (fun k a b i wr => ∃ (j : Nat) (s u : Int), fk ≤ j ∧ j ≤ tk ∧ k = tk - j ∧ i = .int .i64 j ∧ a = .int .i64 s ∧ b = .int .i64 u ∧ Hid (aSum (seg xs fk j) = s) ∧ Hid (bSum (seg xs fk j) = u) ∧ Below w3.heap.size w3 wr)
  case atStart => exact ⟨fk, 0, 0, Nat.le_refl _, hft, rfl, rfl, rfl, rfl, by rw [seg_nil]; rfl, by rw [seg_nil]; rfl, Below.refl _ _⟩
  case round =>
    obtain ⟨j, s, u, hj0, hj, hk, rfl, rfl, rfl, hs, hu, hbel⟩ := hrel
    have HK := Lib.hid hk; clear hk
    have hsz := hbel.size
    obtain ⟨s0, s1, u0, u1, _⟩ := seg_bound HOK.out HX.out hj0 (show j ≤ m by omega) hs.out hu.out
    by_cases hlt : j < tk
    · have hltn : j < m := by omega
      obtain ⟨b, off, hbo, hb, hc'⟩ := HR3.out (by omega)
      have c0 : wr.cell? ⟨b, off + j * 3, none⟩ = _ := (hbel.cell (p := ⟨b, off + j * 3, none⟩) hb).trans (hc' j 0 hltn (by omega))
      have c1 : wr.cell? ⟨b, off + j * 3 + 1, none⟩ = _ := (hbel.cell (p := ⟨b, off + j * 3 + 1, none⟩) hb).trans (hc' j 1 hltn (by omega))
      obtain ⟨x, hx⟩ : ∃ x, xs.getD j default = x := ⟨_, rfl⟩
      simp only [lnc, hx] at c0 c1
      injection hbo with hbo
      injection hbo with q1 q2
      subst q1 q2
      simp only [Nat.zero_add] at c0 c1
      have Hx := Lib.hid hx; clear hx hc'
      obtain ⟨⟨p1, p2⟩, ⟨p3, p4⟩, _⟩ := linesOk_at HOK.out HX.out hltn Hx.out
      have hlt' : (j : Int) < (tk : Int) := by omega
      have hltn' : (j : Int) < (m : Int) := by omega
      go_wp2_with fail
      go_roundg (tk - (j + 1))
      case measure => have := HK.out; omega
      case rel =>
        refine ⟨j + 1, s + x.a, u + x.b, by omega, by omega, rfl, by go_num, rfl, rfl, ?_, ?_, by (repeat' (first | (with_reducible exact Below.refl _ _) | (with_reducible assumption) | (with_reducible refine Below.alloc ?_ ?_ _) | (with_reducible refine Below.drew ?_) | (with_reducible refine below_drewN ?_ _) | (with_reducible refine Below.setCell ?_ ?_ _) | (with_reducible refine below_then ?_ ?_ (by with_reducible assumption)) | (with_reducible exact Nat.le_refl _) | go_size | (simp only [*]; done)))⟩
        · show _ = _
          rw [seg_snoc HX.out hltn hj0 Hx.out, aSum_snoc, hs.out]
        · show _ = _
          rw [seg_snoc HX.out hltn hj0 Hx.out, bSum_snoc, hu.out]
    · have ej : j = tk := by omega
      subst ej
      have e1 : v = rule s u := by rw [← HPG.out, pageH, hs.out, hu.out]
      have hB := below_then (Nat.le_refl _) hB3 hbel
      have hmore : j < m → v < heightV xs (fk : Int) ((j : Int) + 1) := fun h => by
        rw [show (j : Int) + 1 = ((j + 1 : Nat) : Int) by omega, height_yes HOK.out HX.out (by omega) (by omega), ← HPG.out]
        exact pageH_more HOK.out HX.out hft h
      have HMORE := Lib.hid hmore
      have hrow := Lib.hid (HR3.out.then_ hbel)
      clear hmore
      by_cases hu0 : 0 < u
      all_goals
        rw [rule] at e1
        first | rw [if_pos (by omega)] at e1 | rw [if_neg (by omega)] at e1
        subst e1
        by_cases hjm : j < m
      · have hjb : ((j : Int) == (m : Int)) = false := by simp; omega
        have hub : (u == 0) = false := by simp; omega
        have HM2 := Lib.hid (HMORE.out hjm)
        obtain ⟨v2, hv2⟩ : ∃ v2, heightV xs (fk : Int) ((j : Int) + 1) = v2 := ⟨_, rfl⟩
        have hlt2 := HM2.out
        rw [hv2] at hlt2
        have HV2 := Lib.hid hv2
        clear hv2
        have hse : s + (u + 2) = s + u + 2 := by omega
        rw [hse] at hlt2 ⊢
        clear hse
        go_wp2_with fail
        ((with_reducible refine (heightV_i _ _ _ _ _ xs _ HX.out hmx HCP.out ?_).mono ?_); (exact hrow.out); rintro e w5 ⟨rfl, hb5⟩)
        rw [HV2.out]
        go_wp2_with fail
        go_returns
        exact ⟨rfl, below_then (Nat.le_refl _) hB hb5⟩
      · have hjb : ((j : Int) == (m : Int)) = true := by simp; omega
        have hub : (u == 0) = false := by simp; omega
        have hse : s + (u + 2) = s + u + 2 := by omega
        rw [hse]
        clear hse
        go_wp2_with fail
        go_returns
        exact ⟨rfl, hB⟩
      · have hjb : ((j : Int) == (m : Int)) = false := by simp; omega
        have hub : (u == 0) = true := by simp; omega
        have HM2 := Lib.hid (HMORE.out hjm)
        obtain ⟨v2, hv2⟩ : ∃ v2, heightV xs (fk : Int) ((j : Int) + 1) = v2 := ⟨_, rfl⟩
        have hlt2 := HM2.out
        rw [hv2] at hlt2
        have HV2 := Lib.hid hv2
        clear hv2
        go_wp2_with fail
        ((with_reducible refine (heightV_i _ _ _ _ _ xs _ HX.out hmx HCP.out ?_).mono ?_); (exact hrow.out); rintro e w5 ⟨rfl, hb5⟩)
        rw [HV2.out]
        go_wp2_with fail
        go_returns
        exact ⟨rfl, below_then (Nat.le_refl _) hB hb5⟩
      · have hjb : ((j : Int) == (m : Int)) = true := by simp; omega
        have hub : (u == 0) = true := by simp; omega
        go_wp2_with fail
        go_returns
        exact ⟨rfl, hB⟩
end Go.Proofs.Yticdgpgbpgjnbaa
