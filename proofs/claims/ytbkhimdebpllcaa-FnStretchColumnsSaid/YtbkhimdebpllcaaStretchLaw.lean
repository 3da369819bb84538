/- The law on stretched columns answers true: FnStretchColumns. Conditions: the code is a slice of bytes. -/
import Derived.Test.YtbkhimdebpllcaaStretchPlain
import Derived.Test.YtbkhimdebpllcaaStretchDraw
import Derived.Test.YtbkhimdebpllcaaEqualInts
namespace Go.Proofs.Ytbkhimdebpllcaa
open Go.RowKit

set_option maxHeartbeats 4000000 in
theorem law_StretchColumns (A : Option Addr) (n cap : Nat) (cs : List Int) (w : World) (hc : Code w A n cap cs) :
    Calls Try.prog 5 #[.slice A n cap] w fun e w' => e = .returned (.bool true) ∧ Below w.heap.size w w' := by
  have hn := hc.1
  unfold maxLen at hn
  by_cases hbig : 1048576 < n
  · go_enter Try.func5, Try.ntmps5
    go_wp2
    go_returns
    exact ⟨rfl, Below.refl _ _⟩
  go_enter Try.func5, Try.ntmps5
  go_wp2_with fail
  ((with_reducible refine (DrawStretchColumns_any _ _ _ cs _ hc).mono ?_); rintro e w1 ⟨B, m, c, xs, t, rfl, hx, hm, hr1, hb1⟩)
  have HX := Lib.hid hx; clear hx
  have hmx : m ≤ maxLen := by unfold maxLen; omega
  have hz1 := hb1.size
  obtain ⟨L, hL⟩ : ∃ L, strV xs t = L := ⟨_, rfl⟩
  obtain ⟨q, hq⟩ : ∃ q, L.length = q := ⟨_, rfl⟩
  have hqm : q ≤ m := by
    rw [← hq, ← hL, ← HX.out]
    unfold strV
    split
    · rw [strL_len]; exact Nat.le_refl _
    · exact Nat.zero_le _
  have hqx : q ≤ maxLen := by unfold maxLen; omega
  have HI := Lib.hid (fun (A : Option Addr) (cap n : Nat) (ys : List Int) (W : World) (hn : ys.length = n) (hm : n ≤ maxLen) (hv : strV ys t = L) (hr : Row W W.heap.size 1 A n (inc ys)) => (by
    have := stretch_i A n cap t ys W hn hm hr
    rw [hv] at this
    refine this.mono ?_
    rintro e w' ⟨A, d, h1, h2, h3⟩
    rw [hq] at h1 h2
    exact ⟨A, d, h1, h2, h3⟩ : Calls Try.prog 14 #[.slice A n cap, .int .i64 t] W fun e w' => ∃ (A : Option Addr) (d : Nat), e = .returned (.slice A q d) ∧ OwnI w' W.heap.size A q d L ∧ Below W.heap.size W w'))
  have HS := Lib.hid (fun (A : Option Addr) (cap n : Nat) (ys : List Int) (W : World) (hn : ys.length = n) (hm : n ≤ maxLen) (hv : strV ys t = L) (hr : Row W W.heap.size 1 A n (inc ys)) => (by
    have := stretch_s A n cap t ys W hn hm hr
    rw [hv] at this
    refine this.mono ?_
    rintro e w' ⟨A, d, h1, h2, h3⟩
    rw [hq] at h1 h2
    exact ⟨A, d, h1, h2, h3⟩ : Calls Try.prog 12 #[.slice A n cap, .int .i64 t] W fun e w' => ∃ (A : Option Addr) (d : Nat), e = .returned (.slice A q d) ∧ OwnI w' W.heap.size A q d L ∧ Below W.heap.size W w'))
  have HL := Lib.hid hL
  have HQ := Lib.hid hq
  clear hL hq
  go_wp2_with fail
  ((with_reducible refine (HI.out B c m xs _ HX.out hmx HL.out ?_).mono ?_); (exact hr1); rintro e w2 ⟨A2, c2, rfl, ho2, hb2⟩)
  have hz2 := hb2.size
  have hr2 := hr1.then_ hb2
  go_wp2_with fail
  ((with_reducible refine (HS.out B c m xs _ HX.out hmx HL.out ?_).mono ?_); (exact hr2); rintro e w3 ⟨A3, c3, rfl, ho3, hb3⟩)
  have hz3 := hb3.size
  have hr3 := hr2.then_ hb3
  have ho23 := ho2.then_ hb3
  go_wp2_with fail
  ((with_reducible refine (equalInts_same _ _ _ _ _ L _ hqx ?_ ?_).mono ?_); (exact ho23.row); (exact ho3.row); rintro e w4 ⟨rfl, hb4⟩)
  have hz4 := hb4.size
  have hr4 := hr3.then_ hb4
  have ho24 := ho23.then_ hb4
  have hB4 : Below w.heap.size w w4 := by (repeat' (first | (with_reducible exact Below.refl _ _) | (with_reducible assumption) | (with_reducible refine Below.alloc ?_ ?_ _) | (with_reducible refine Below.drew ?_) | (with_reducible refine below_drewN ?_ _) | (with_reducible refine Below.setCell ?_ ?_ _) | (with_reducible refine below_then ?_ ?_ (by with_reducible assumption)) | (with_reducible exact Nat.le_refl _) | go_size | (simp only [*]; done)))
  by_cases hq0 : q = 0
  · subst hq0
    go_wp2_with fail
    ((with_reducible refine (HS.out B c m xs _ HX.out hmx HL.out ?_).mono ?_); (exact hr4); rintro e w5 ⟨A5, c5, rfl, ho5, hb5⟩)
    have hz5 := hb5.size
    have ho25 := ho24.then_ hb5
    have hB5 : Below w.heap.size w w5 := below_then (Nat.le_refl _) hB4 hb5
    go_wp2_with fail
    ((with_reducible refine (equalInts_same _ _ _ _ _ L _ hqx ?_ ?_).mono ?_); (exact ho25.row); (exact ho5.row); rintro e w6 ⟨rfl, hb6⟩)
    go_wp2_with fail
    go_returns
    exact ⟨rfl, below_then (Nat.le_refl _) hB5 hb6⟩
  have hqb : ((q : Int) == 0) = false := by simp; omega
  have hok : strOk xs t = true := by
    rcases h : strOk xs t with _ | _
    · exact absurd (by rw [← HQ.out, ← HL.out, str_no h]; rfl) hq0
    · rfl
  have hLs : L = strL xs t := by rw [← HL.out, str_yes hok]
  have hqm' : q = m := by rw [← HQ.out, hLs, strL_len, HX.out]
  subst hqm'
  have HOK := Lib.hid hok
  have HLS := Lib.hid hLs
  have hrL := Lib.hid ho24.row
  have HR4 := Lib.hid hr4
  clear hr1 hr2 hr3 hr4 ho2 ho23 hok hLs
  go_wp2_with fail
  go_loopg [6] q (fun k i wr => ∃ j : Nat, j ≤ q ∧ k = q - j ∧ i = .int .i64 j ∧ Below w4.heap.size w4 wr)
  case atStart => exact ⟨0, Nat.zero_le _, rfl, rfl, Below.refl _ _⟩
  case round =>
    obtain ⟨j, hj, hk, rfl, hbel⟩ := hrel
    have HK := Lib.hid hk; clear hk
    have hsz := hbel.size
    by_cases hlt : j < q
    · obtain ⟨b', off', hA', hb', hc'⟩ := hrL.out.at1 (by omega)
      have d0 : wr.cell? ⟨b', off' + j, none⟩ = _ := (hbel.cell (p := ⟨b', off' + j, none⟩) hb').trans (hc' j hlt)
      obtain ⟨b, off, hA, hb, hc⟩ := HR4.out.at1 (by omega)
      have c0 : wr.cell? ⟨b, off + j, none⟩ = _ := (hbel.cell (p := ⟨b, off + j, none⟩) hb).trans (hc j hlt)
      subst hA' hA
      obtain ⟨x, hx⟩ : ∃ x, xs.getD j default = x := ⟨_, rfl⟩
      obtain ⟨y, hy⟩ : ∃ y, L.getD j default = y := ⟨_, rfl⟩
      have hxy : x ≤ y := by
        rw [← hy, HLS.out, strL_at HX.out hlt]
        exact bord_more HOK.out HX.out hlt hx
      simp only [inc, hx, hy] at c0 d0
      clear hc hc' hx hy
      have hlt' : (j : Int) < (q : Int) := by omega
      go_wp2_with fail
      go_region
      all_goals
        go_wp2_with fail
        go_roundg (q - (j + 1))
        case measure => have := HK.out; omega
        case rel => exact ⟨j + 1, by omega, rfl, by go_num, by (repeat' (first | (with_reducible exact Below.refl _ _) | (with_reducible assumption) | (with_reducible refine Below.alloc ?_ ?_ _) | (with_reducible refine Below.drew ?_) | (with_reducible refine below_drewN ?_ _) | (with_reducible refine Below.setCell ?_ ?_ _) | (with_reducible refine below_then ?_ ?_ (by with_reducible assumption)) | (with_reducible exact Nat.le_refl _) | go_size | (simp only [*]; done)))⟩
    · have hrLr := hrL.out.then_ hbel
      have ho2r := ho24.then_ hbel
      have hB := below_then (Nat.le_refl _) hB4 hbel
      have hLb : ∀ x ∈ L, -1000000 ≤ x ∧ x ≤ 1000000 := by
        intro x hx
        rw [HLS.out] at hx
        have := strL_bound HOK.out x hx
        omega
      have hsum : L.sum = t := by rw [HLS.out, strL_sum HOK.out]
      have hag : strV L t = L := by rw [HLS.out, strL_again HOK.out]
      have HLB := Lib.hid hLb
      have HSUM := Lib.hid hsum
      have HAG := Lib.hid hag
      clear hLb hsum hag
      go_wp2_with fail
      ((with_reducible refine (sum_any _ _ _ L _ HQ.out (by omega) HLB.out ?_).mono ?_); (exact hrLr); rintro e w5 ⟨rfl, hb5⟩)
      rw [HSUM.out]
      have hz5 := hb5.size
      have ho25 := ho2r.then_ hb5
      have hB5 : Below w.heap.size w w5 := below_then (Nat.le_refl _) hB hb5
      go_wp2_with fail
      ((with_reducible refine (HI.out _ _ _ L _ HQ.out hqx HAG.out ?_).mono ?_); (exact ho25.row); rintro e w6 ⟨A6, c6, rfl, ho6, hb6⟩)
      have hz6 := hb6.size
      have ho26 := ho25.then_ hb6
      have hB6 : Below w.heap.size w w6 := below_then (Nat.le_refl _) hB5 hb6
      go_wp2_with fail
      ((with_reducible refine (equalInts_same _ _ _ _ _ L _ hqx ?_ ?_).mono ?_); (exact ho6.row); (exact ho26.row); rintro e w7 ⟨rfl, hb7⟩)
      go_wp2_with fail
      go_returns
      exact ⟨rfl, below_then (Nat.le_refl _) hB6 hb7⟩
end Go.Proofs.Ytbkhimdebpllcaa
