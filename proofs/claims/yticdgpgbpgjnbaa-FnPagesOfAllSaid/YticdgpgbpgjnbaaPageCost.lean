/- The cost of a page, and CheckPages, of the program and of the reference, return what the plain functions say. Conditions: the slices read as the lists. -/
import Derived.Test.YticdgpgbpgjnbaaPageHeight
import Derived.Test.YticdgpgbpgjnbaaInts
namespace Go.Proofs.Yticdgpgbpgjnbaa
open Go.RowKit

def widthOk (a : Int) : Bool := inR a 1 10000
theorem validWidth_any (a : Int) (w : World) : Calls Try.prog 48 #[.int .i64 a] w fun e w' => e = .returned (.bool (widthOk a)) ∧ w = w' := by
  go_enter Try.func48, Try.ntmps48
  go_wp2_with fail
  ((with_reducible refine (inRange_any _ _ _ _).mono ?_); rintro e w' ⟨rfl, rfl⟩)
  go_wp2
  go_ret
  exact ⟨rfl, rfl⟩
def pagingOk (xs : List Ln) (h : Int) : Bool := linesOk xs && widthOk h
theorem validPaging_i (A : Option Addr) (n cap : Nat) (h : Int) (xs : List Ln) (w : World) (hn : xs.length = n) (hm : n ≤ maxLen) (hr : Row w w.heap.size 3 A n (lnc xs)) :
    Calls Try.prog 49 #[.slice A n cap, .int .i64 h] w fun e w' => e = .returned (.bool (pagingOk xs h)) ∧ Below w.heap.size w w' := by
  rcases hv : linesOk xs with _ | _
  · go_enter Try.func49, Try.ntmps49
    go_wp2_with fail
    ((with_reducible refine (validLines_i _ _ _ xs _ hn hm ?_).mono ?_); (exact hr); rintro e w1 ⟨rfl, hb⟩)
    rw [hv]
    go_wp2
    go_ret
    exact ⟨ret_bool (by rw [pagingOk, hv]; rfl), hb⟩
  · have HV := Lib.hid hv; clear hv
    go_enter Try.func49, Try.ntmps49
    go_wp2_with fail
    ((with_reducible refine (validLines_i _ _ _ xs _ hn hm ?_).mono ?_); (exact hr); rintro e w1 ⟨rfl, hb⟩)
    rw [HV.out]
    go_wp2_with fail
    ((with_reducible refine (within_any _ _ _ _).mono ?_); rintro e w' ⟨rfl, rfl⟩)
    go_wp2
    go_ret
    exact ⟨ret_bool (by rw [pagingOk, HV.out]; rfl), hb⟩
theorem paging_iff {xs : List Ln} {h : Int} (hv : pagingOk xs h = true) : linesOk xs = true ∧ 1 ≤ h ∧ h ≤ 10000 := by
  simp only [pagingOk, Bool.and_eq_true] at hv
  exact ⟨hv.1, inR_iff.1 hv.2⟩

theorem sq_bound {r : Int} (h0 : 0 ≤ r) (h1 : r ≤ 10000) : 0 ≤ r * r ∧ r * r ≤ 100000000 := by
  refine ⟨Int.mul_nonneg h0 h0, ?_⟩
  have := Int.mul_le_mul h1 h1 h0 (by omega)
  omega
theorem pageC_none {xs : List Ln} {h : Int} {f t : Nat} (hh : h < pageH (seg xs f t)) : pageC xs h f t = none := by rw [pageC, if_pos hh]
theorem pageC_last {xs : List Ln} {h : Int} {n f t : Nat} (hn : xs.length = n) (hh : ¬ h < pageH (seg xs f t)) (ht : t = n) : pageC xs h f t = some 0 := by rw [pageC, if_neg hh, if_pos (by omega)]
theorem pageC_some {xs : List Ln} {h : Int} {n f t : Nat} {x : Ln} (hn : xs.length = n) (hh : ¬ h < pageH (seg xs f t)) (ht : t ≠ n) (hx : xs.getD (t - 1) default = x) : pageC xs h f t = some ((h - pageH (seg xs f t)) * (h - pageH (seg xs f t)) + x.c) := by rw [pageC, if_neg hh, if_neg (by omega), hx]
theorem pageC_bound {xs : List Ln} {h : Int} {n f t : Nat} {v : Int} (hok : linesOk xs = true) (hn : xs.length = n) (h1 : h ≤ 10000) (hf : f < t) (ht : t ≤ n) (hv : pageC xs h f t = some v) : 0 ≤ v ∧ v ≤ 100001000 := by
  have hb := pageH_bound hok hn (show f ≤ t by omega) ht
  by_cases hh : h < pageH (seg xs f t)
  · rw [pageC_none hh] at hv; cases hv
  · by_cases e : t = n
    · rw [pageC_last hn hh e] at hv
      injection hv with hv
      omega
    · rw [pageC_some hn hh e rfl] at hv
      injection hv with hv
      have h2 := sq_bound (r := h - pageH (seg xs f t)) (by omega) (by omega)
      have h3 := linesOk_at hok hn (k := t - 1) (by omega) rfl
      omega

set_option maxHeartbeats 1000000 in
theorem pageCost_i (A : Option Addr) (n cap f t : Nat) (h : Int) (xs : List Ln) (w : World) (hok : linesOk xs = true) (hn : xs.length = n) (hcap : n ≤ cap ∧ cap ≤ maxLen) (hf : f < t) (ht : t ≤ n) (h1 : 1 ≤ h) (h2 : h ≤ 10000) (hr : Row w w.heap.size 3 A n (lnc xs)) :
    Calls Try.prog 52 #[.slice A n cap, .int .i64 h, .int .i64 (f : Int), .int .i64 (t : Int)] w fun e w' => e = .returned (.tuple #[.int .i64 ((pageC xs h f t).getD 0), .bool (pageC xs h f t).isSome]) ∧ Below w.heap.size w w' := by
  have hl := linesOk_len hok
  rw [hn] at hl
  obtain ⟨hc1, hc2⟩ := hcap
  unfold maxLen at hc2
  have hsl : Hid ((seg xs f t).length = t - f) := seg_len hn ht
  have HLO := Lib.hid (lineOk_seg hok f t)
  obtain ⟨v, hv⟩ : ∃ v, pageH (seg xs f t) = v := ⟨_, rfl⟩
  have hvb := pageH_bound hok hn (show f ≤ t by omega) ht
  rw [hv] at hvb
  obtain ⟨hv0, hv1⟩ := hvb
  have HVE := Lib.hid hv
  have h4 : (t : Int) ≤ (cap : Int) := by omega
  have h5 : (f : Int) ≤ (t : Int) := by omega
  have hcf : ¬ cap = f := by omega
  obtain ⟨b, off, rfl, hbb, hcc⟩ := hr (by omega)
  obtain ⟨x, hx⟩ : ∃ x, xs.getD (t - 1) default = x := ⟨_, rfl⟩
  have c2 := hcc (t - 1) 2 (by omega) (by omega)
  simp only [lnc, hx] at c2
  obtain ⟨_, _, g5, g6⟩ := linesOk_at hok hn (k := t - 1) (by omega) hx
  have HR := Lib.hid hr
  have HN := Lib.hid hn
  have HX := Lib.hid hx
  clear hv hn hx hcc
  by_cases hlow : h < v
  · have e := pageC_none (xs := xs) (f := f) (t := t) (show h < pageH (seg xs f t) by rw [HVE.out]; exact hlow)
    have E := Lib.hid e; clear e
    go_enter Try.func52, Try.ntmps52
    go_wp2_with fail
    ((with_reducible refine (pageHeight_i _ _ _ (seg xs f t) _ HLO.out hsl.out (by omega) ?_).mono ?_); (exact HR.out.seg HN.out f t ht); rintro e w1 ⟨rfl, hb⟩)
    rw [HVE.out]
    go_wp2
    go_ret2
    exact ⟨by rw [E.out]; rfl, hb⟩
  by_cases hlast : t = n
  · have e := pageC_last (h := h) (f := f) HN.out (show ¬ h < pageH (seg xs f t) by rw [HVE.out]; exact hlow) hlast
    have E := Lib.hid e; clear e
    subst hlast
    go_enter Try.func52, Try.ntmps52
    go_wp2_with fail
    ((with_reducible refine (pageHeight_i _ _ _ (seg xs f t) _ HLO.out hsl.out (by omega) ?_).mono ?_); (exact HR.out.seg HN.out f t ht); rintro e w1 ⟨rfl, hb⟩)
    rw [HVE.out]
    go_wp2
    go_ret2
    exact ⟨by rw [E.out]; rfl, hb⟩
  · have e := pageC_some (h := h) (f := f) HN.out (show ¬ h < pageH (seg xs f t) by rw [HVE.out]; exact hlow) hlast HX.out
    rw [HVE.out] at e
    have E := Lib.hid e; clear e
    have hlb : ((t : Int) == (n : Int)) = false := by simp; omega
    obtain ⟨q0, q1⟩ := sq_bound (r := h - v) (by omega) (by omega)
    have a1 : IntKind.i64.wrap ((h - v) * (h - v)) = (h - v) * (h - v) := IntWalk.i64_in _ (by omega)
    have a2 : IntKind.i64.wrap ((h - v) * (h - v) + x.c) = (h - v) * (h - v) + x.c := IntWalk.i64_in _ (by omega)
    have a3 : IntKind.i64.wrap ((t : Int) - 1) = (t : Int) - 1 := IntWalk.i64_in _ (by omega)
    have a4 : ((t : Int) - 1).toNat = t - 1 := by omega
    have a5 : (t : Int) - 1 < (n : Int) := by omega
    have a6 : (0 : Int) ≤ (t : Int) - 1 := by omega
    go_enter Try.func52, Try.ntmps52
    go_wp2_with fail
    ((with_reducible refine (pageHeight_i _ _ _ (seg xs f t) _ HLO.out hsl.out (by omega) ?_).mono ?_); (exact HR.out.seg HN.out f t ht); rintro e w1 ⟨rfl, hb⟩)
    rw [HVE.out]
    have d2 := (hb.cell (p := ⟨b, off + (t - 1) * 3 + 2, none⟩) hbb).trans c2
    go_wp2
    go_ret2
    exact ⟨by rw [E.out]; rfl, hb⟩

set_option maxHeartbeats 1000000 in
theorem pageCost_s (A : Option Addr) (n cap f t : Nat) (h : Int) (xs : List Ln) (w : World) (hok : linesOk xs = true) (hn : xs.length = n) (hf : f < t) (ht : t ≤ n) (h1 : 1 ≤ h) (h2 : h ≤ 10000) (hr : Row w w.heap.size 3 A n (lnc xs)) :
    Calls Try.prog 50 #[.slice A n cap, .int .i64 (f : Int), .int .i64 (t : Int), .int .i64 h] w fun e w' => e = .returned (.tuple #[.int .i64 ((pageC xs h f t).getD 0), .bool (pageC xs h f t).isSome]) ∧ Below w.heap.size w w' := by
  have hl := linesOk_len hok
  rw [hn] at hl
  obtain ⟨v, hv⟩ : ∃ v, pageH (seg xs f t) = v := ⟨_, rfl⟩
  have hvb := pageH_bound hok hn (show f ≤ t by omega) ht
  rw [hv] at hvb
  obtain ⟨hv0, hv1⟩ := hvb
  have HVE := Lib.hid hv
  obtain ⟨b, off, rfl, hbb, hcc⟩ := hr (by omega)
  obtain ⟨x, hx⟩ : ∃ x, xs.getD (t - 1) default = x := ⟨_, rfl⟩
  have c2 := hcc (t - 1) 2 (by omega) (by omega)
  simp only [lnc, hx] at c2
  obtain ⟨_, _, g5, g6⟩ := linesOk_at hok hn (k := t - 1) (by omega) hx
  have HR := Lib.hid hr
  have HN := Lib.hid hn
  have HX := Lib.hid hx
  have HOK := Lib.hid hok
  clear hv hn hx hcc hok
  by_cases hlow : h < v
  · have e := pageC_none (xs := xs) (f := f) (t := t) (show h < pageH (seg xs f t) by rw [HVE.out]; exact hlow)
    have E := Lib.hid e; clear e
    go_enter Try.func50, Try.ntmps50
    go_wp2_with fail
    ((with_reducible refine (pageHeight_s _ _ _ f t xs _ HOK.out HN.out (by omega) ht ?_).mono ?_); (exact HR.out); rintro e w1 ⟨rfl, hb⟩)
    rw [HVE.out]
    go_wp2
    go_ret2
    exact ⟨by rw [E.out]; rfl, hb⟩
  by_cases hlast : t = n
  · have e := pageC_last (h := h) (f := f) HN.out (show ¬ h < pageH (seg xs f t) by rw [HVE.out]; exact hlow) hlast
    have E := Lib.hid e; clear e
    subst hlast
    go_enter Try.func50, Try.ntmps50
    go_wp2_with fail
    ((with_reducible refine (pageHeight_s _ _ _ f t xs _ HOK.out HN.out (by omega) ht ?_).mono ?_); (exact HR.out); rintro e w1 ⟨rfl, hb⟩)
    rw [HVE.out]
    go_wp2
    go_ret2
    exact ⟨by rw [E.out]; rfl, hb⟩
  · have e := pageC_some (h := h) (f := f) HN.out (show ¬ h < pageH (seg xs f t) by rw [HVE.out]; exact hlow) hlast HX.out
    rw [HVE.out] at e
    have E := Lib.hid e; clear e
    have hlb : ((t : Int) == (n : Int)) = false := by simp; omega
    obtain ⟨q0, q1⟩ := sq_bound (r := h - v) (by omega) (by omega)
    have a1 : IntKind.i64.wrap ((h - v) * (h - v)) = (h - v) * (h - v) := IntWalk.i64_in _ (by omega)
    have a2 : IntKind.i64.wrap ((h - v) * (h - v) + x.c) = (h - v) * (h - v) + x.c := IntWalk.i64_in _ (by omega)
    have a3 : IntKind.i64.wrap ((t : Int) - 1) = (t : Int) - 1 := IntWalk.i64_in _ (by omega)
    have a4 : ((t : Int) - 1).toNat = t - 1 := by omega
    have a5 : (t : Int) - 1 < (n : Int) := by omega
    have a6 : (0 : Int) ≤ (t : Int) - 1 := by omega
    go_enter Try.func50, Try.ntmps50
    go_wp2_with fail
    ((with_reducible refine (pageHeight_s _ _ _ f t xs _ HOK.out HN.out (by omega) ht ?_).mono ?_); (exact HR.out); rintro e w1 ⟨rfl, hb⟩)
    rw [HVE.out]
    have d2 := (hb.cell (p := ⟨b, off + (t - 1) * 3 + 2, none⟩) hbb).trans c2
    go_wp2
    go_ret2
    exact ⟨by rw [E.out]; rfl, hb⟩
end Go.Proofs.Yticdgpgbpgjnbaa
