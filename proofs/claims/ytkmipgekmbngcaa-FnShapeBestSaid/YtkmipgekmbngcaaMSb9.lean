/- sumLines of the program returns what the plain function says, with any function value for the widths. Conditions: the slices read as valid items and as a list; the function value tells the widths, in memory of its own. -/
import Derived.Test.YtkmipgekmbngcaaMSb6
import Derived.Test.YtkmipgekmbngcaaLineCost
import Derived.Test.YtkmipgekmbngcaaInts
import Derived.Shelf.Abstract
import Derived.Test.YtkmipgekmbngcaaShapeG
namespace Go.Proofs.Ytkmipgekmbngcaa
open Go.RowKit

set_option maxRecDepth 100000 in
set_option maxHeartbeats 4000000 in
theorem sumLines_i (K : Nat) (caps : Array Value) (A B : Option Addr) (n cap nb capb : Nat) (xs : List It) (bs : List Int) (wd : Nat → Int) (tol : Int) (w : World) (eg : ∀ args w, (callFunc K args).run Try.prog w = .ok (.enter K args) w)
    (hok : itemsOk xs = true) (hn : xs.length = n) (hcap : n ≤ cap ∧ cap ≤ maxLen) (hr : Row w w.heap.size 6 A n (itc xs)) (hbn : bs.length = nb) (hbm : nb ≤ maxLen) (hbr : Row w w.heap.size 1 B nb (inc bs)) (hwd : ∀ k, 1 ≤ wd k ∧ wd k ≤ 10000)
    (hcall : ∀ (k : Nat) W, k < nb → Below w.heap.size w W → Calls Try.prog K (#[.int .i64 (k : Int)] ++ caps) W fun e W' => e = .returned (.int .i64 (wd k)) ∧ Below W.heap.size W W') :
    Calls Try.prog 46 #[.slice A n cap, .slice B nb capb, .int .i64 tol, .func (.func K) #[] caps] w fun e w' => e = .returned (.tuple #[.int .i64 ((chkP xs wd tol bs).getD 0), .bool (chkP xs wd tol bs).isSome]) ∧ Below w.heap.size w w' := by
  have hm60 := (itemsOk_len hok hn).2
  have hm1 := (itemsOk_len hok hn).1
  unfold maxLen at hbm
  have HOK := Lib.hid hok
  have HN := Lib.hid hn
  have HR := Lib.hid hr
  have HBN := Lib.hid hbn
  have HBR := Lib.hid hbr
  have HWD := Lib.hid hwd
  have HCALL := Lib.hid hcall
  by_cases hz : nb = 0
  · subst hz
    have HE := Lib.hid (chk_zero (xs := xs) (wd := wd) (tol := tol) hbn)
    clear hok hn hr hbn hbr hwd hcall
    go_enter Try.func46, Try.ntmps46
    go_wp2_with fail
    (first | go_returns | (refine bodyPost_ret (by simp [results, Try.results46, go_sem, *]; try rfl) rfl ?_))
    exact ⟨by rw [HE.out]; rfl, Below.refl _ _⟩
  have hpos : 0 < nb := by omega
  have hzf : ((nb : Int) == 0) = false := by simpa using hz
  obtain ⟨b, off, rfl, hb, hc⟩ := id hbr hpos
  obtain ⟨L, hL⟩ : ∃ L, bs.getD (nb - 1) default = L := ⟨_, rfl⟩
  have c0 : w.cell? ⟨b, off + (nb - 1), none⟩ = some (.int .i64 L) := by
    have := hc (nb - 1) 0 (by omega) (by omega)
    simpa only [inc, hL, Nat.mul_one, Nat.add_zero] using this
  have hbn' : bs.length = (nb - 1) + 1 := by omega
  by_cases hl : L = (n : Int) - 1
  case neg =>
    have HE := Lib.hid (chk_last (xs := xs) (wd := wd) (tol := tol) hbn' (by rw [hL, hn]; exact hl))
    have hlf : (L == (n : Int) - 1) = false := by simpa using hl
    clear hok hn hr hbn hbn' hbr hwd hcall hc hL hl
    go_enter Try.func46, Try.ntmps46
    go_wp2_with fail
    (first | go_returns | (refine bodyPost_ret (by simp [results, Try.results46, go_sem, *]; try rfl) rfl ?_))
    exact ⟨by rw [HE.out]; rfl, Below.refl _ _⟩
  have hend := chk_end (xs := xs) (wd := wd) (tol := tol) hbn' (by rw [hL, hn]; exact hl)
  rw [show nb - 1 + 1 = nb by omega] at hend
  have HEND := Lib.hid hend
  have HC := Lib.hid hc
  clear hok hn hr hbn hbn' hbr hwd hcall hc hL hend
  subst hl
  go_enter Try.func46, Try.ntmps46
  go_wp2_with fail
  clear c0 hz hzf
  go_loopg [10, 11, 33] nb (fun k sv fv i wr => ∃ (j : Nat) (s f : Int), j ≤ nb ∧ k = nb - j ∧ i = .int .i64 (j : Int) ∧ sv = .int .i64 s ∧ fv = .int .i64 f ∧ Hid (sumJ xs wd tol bs j = some s) ∧ Hid (frm bs j = f) ∧ Below w.heap.size w wr)
  case atStart => exact ⟨0, 0, -1, Nat.zero_le _, rfl, rfl, rfl, rfl, rfl, rfl, Below.refl _ _⟩
  case round =>
    obtain ⟨j, s, f, hj, hk, rfl, rfl, rfl, hs, hf, hbel⟩ := hrel
    have HK := Lib.hid hk; clear hk
    have hsz := hbel.size
    obtain ⟨j0, j1, s0, s1⟩ := sumJ_b HOK.out HN.out HWD.out j s hs.out
    rw [hf.out] at j0 j1
    by_cases hlt : j < nb
    · obtain ⟨t, ht⟩ : ∃ t, bs.getD j default = t := ⟨_, rfl⟩
      have c0 : wr.cell? ⟨b, off + j, none⟩ = some (.int .i64 t) := by
        have := (hbel.cell (p := ⟨b, off + j, none⟩) hb).trans (by have := HC.out j 0 hlt (by omega); simpa only [inc, ht, Nat.mul_one, Nat.add_zero] using this)
        exact this
      have hjn : (j : Int) < (nb : Int) := by omega
      have HT := Lib.hid ht
      clear ht
      go_wp2_with fail
      ((with_reducible refine (isLine_i _ _ _ _ _ xs _ HN.out hm60 hcap ?_).mono ?_); (exact (HR.out.below hbel).more hbel.size); rintro e w1 ⟨rfl, hb1⟩)
      have hB1 := below_then (Nat.le_refl _) hbel hb1
      rcases hl : lnOk xs f t with _ | _
      · have HE := Lib.hid (chk_none HBN.out (sumJ_no1 hs.out (by rw [hf.out, HT.out]; exact lc_line hl)) hlt)
        clear hl
        go_wp2_with fail
        (first | go_returns | (refine bodyPost_ret (by simp [results, Try.results46, go_sem, *]; try rfl) rfl ?_))
        exact ⟨by rw [HE.out]; rfl, hB1⟩
      obtain ⟨a, u, ef, et, hau, hun, _⟩ := ln_iff HN.out hl
      subst ef et
      obtain ⟨d0, d1⟩ := HWD.out j
      have hlc : lc xs (wd j) tol (frm bs j) (bs.getD j default) = if costOk xs a u (wd j) tol then some (costV xs a u (wd j) tol) else none := by rw [hf.out, HT.out]; exact lc_at rfl rfl hl
      have HLC := Lib.hid hlc
      have hfa : (a : Int) - 1 + 1 = (a : Int) := by omega
      have HFA := Lib.hid hfa
      clear hl hlc hfa
      go_wp2_with (go_at_fn K; refine (HCALL.out j _ hlt hB1).mono ?_; rintro e w2 ⟨rfl, hb2⟩)
      have hB2 := below_then (Nat.le_refl _) hB1 hb2
      go_wp2_with fail
      ((with_reducible refine (lineCost_i _ _ _ a u _ _ _ xs _ HOK.out HN.out hcap HFA.out hau hun ?_ d0 d1).mono ?_); (exact (HR.out.below hB2).more hB2.size); rintro e w3 ⟨rfl, hb3⟩)
      have hB3 := below_then (Nat.le_refl _) hB2 hb3
      obtain ⟨v0, v1⟩ := costV_b (a := a) (tol := tol) HOK.out HN.out hun d0 d1
      obtain ⟨V, hV⟩ : ∃ V, costV xs a u (wd j) tol = V := ⟨_, rfl⟩
      rw [hV] at HLC v0 v1 ⊢
      clear hV
      rcases hq : costOk xs a u (wd j) tol with _ | _
      · have hc0 := HLC.out
        rw [hq] at hc0
        have HE := Lib.hid (chk_none HBN.out (sumJ_no1 hs.out hc0) hlt)
        clear hq hc0
        go_wp2_with fail
        (first | go_returns | (refine bodyPost_ret (by simp [results, Try.results46, go_sem, *]; try rfl) rfl ?_))
        exact ⟨by rw [HE.out]; rfl, hB3⟩
      · have hc0 := HLC.out
        rw [hq] at hc0
        have HS := Lib.hid (sumJ_yes hs.out hc0)
        clear hq hc0
        go_wp2_with fail
        go_roundg (nb - (j + 1))
        case measure => have := HK.out; omega
        case rel => exact ⟨j + 1, s + V, _, by omega, rfl, by go_num, rfl, rfl, HS.out, by show _ = _; rw [frm_succ, HT.out], hB3⟩
    · have ej : j = nb := by omega
      subst ej
      have HE := Lib.hid (HEND.out.trans hs.out)
      go_wp2_with fail
      (first | go_returns | (refine bodyPost_ret (by simp [results, Try.results46, go_sem, *]; try rfl) rfl ?_))
      exact ⟨by rw [HE.out]; rfl, hbel⟩
end Go.Proofs.Ytkmipgekmbngcaa
/- LineCost of the reference returns what the plain function says. Conditions: the slice reads as the list. -/
namespace Go.Proofs.Ytkmipgekmbngcaa
open Go.RowKit

def lcV (xs : List It) (d tol f t : Int) : Option Int := if itemsOk xs && widthOk d && inR tol 0 10000 then lc xs d tol f t else none
section
variable {xs : List It} {d tol f t : Int}
theorem lcV_no1 (h : lineV xs f t = false) : lcV xs d tol f t = none := by
  rw [lcV]
  rw [lineV] at h
  rcases hk : itemsOk xs with _ | _
  · rfl
  · rw [hk, Bool.true_and] at h
    rw [lc_line h]
    split <;> rfl
theorem lcV_no2 (h : widthOk d = false) : lcV xs d tol f t = none := by rw [lcV, h, Bool.and_false]; rfl
theorem lcV_no3 (h : inR tol 0 10000 = false) : lcV xs d tol f t = none := by rw [lcV, h, Bool.and_false]; rfl
theorem lcV_yes (h0 : itemsOk xs = true) (h1 : widthOk d = true) (h2 : inR tol 0 10000 = true) : lcV xs d tol f t = lc xs d tol f t := by rw [lcV, h0, h1, h2]; rfl
end
/-- An optional number as it is returned. -/
def optV (r : Option Int) : Value := .tuple #[.int .i64 (r.getD 0), .bool r.isSome]

set_option maxRecDepth 100000 in
set_option maxHeartbeats 2000000 in
theorem lineCost_S (A : Option Addr) (n cap : Nat) (f t d tol : Int) (xs : List It) (w : World) (hn : xs.length = n) (hm : n ≤ maxLen) (hr : Row w w.heap.size 6 A n (itc xs)) :
    Calls Try.prog 54 #[.slice A n cap, .int .i64 f, .int .i64 t, .int .i64 d, .int .i64 tol] w fun e w' => e = .returned (optV (lcV xs d tol f t)) ∧ Below w.heap.size w w' := by
  have HR := Lib.hid hr
  rcases hv : lineV xs f t with _ | _
  · have HE := Lib.hid (lcV_no1 (d := d) (tol := tol) hv)
    have HV := Lib.hid hv
    clear hv
    go_enter Try.func54, Try.ntmps54
    go_wp2_with fail
    ((with_reducible refine (validLine_s _ _ _ _ _ xs _ hn hm ?_).mono ?_); (exact HR.out); rintro e w1 ⟨rfl, hb1⟩)
    rw [HV.out]
    go_wp2_with fail
    (first | go_returns | (refine bodyPost_ret (by simp [results, Try.results54, go_sem, *]; try rfl) rfl ?_))
    exact ⟨by rw [HE.out]; rfl, hb1⟩
  rcases hw : widthOk d with _ | _
  · have HE := Lib.hid (lcV_no2 (xs := xs) (f := f) (t := t) (tol := tol) hw)
    have HV := Lib.hid hv
    have HW := Lib.hid hw
    clear hv hw
    go_enter Try.func54, Try.ntmps54
    go_wp2_with fail
    ((with_reducible refine (validLine_s _ _ _ _ _ xs _ hn hm ?_).mono ?_); (exact HR.out); rintro e w1 ⟨rfl, hb1⟩)
    rw [HV.out]
    go_wp2_with fail
    ((with_reducible refine (validWidth_any _ _).mono ?_); rintro e w' ⟨rfl, rfl⟩)
    rw [HW.out]
    go_wp2_with fail
    (first | go_returns | (refine bodyPost_ret (by simp [results, Try.results54, go_sem, *]; try rfl) rfl ?_))
    exact ⟨by rw [HE.out]; rfl, hb1⟩
  rcases ht : inR tol 0 10000 with _ | _
  · have HE := Lib.hid (lcV_no3 (xs := xs) (f := f) (t := t) (d := d) ht)
    have HV := Lib.hid hv
    have HW := Lib.hid hw
    have HT := Lib.hid ht
    clear hv hw ht
    go_enter Try.func54, Try.ntmps54
    go_wp2_with fail
    ((with_reducible refine (validLine_s _ _ _ _ _ xs _ hn hm ?_).mono ?_); (exact HR.out); rintro e w1 ⟨rfl, hb1⟩)
    rw [HV.out]
    go_wp2_with fail
    ((with_reducible refine (validWidth_any _ _).mono ?_); rintro e w' ⟨rfl, rfl⟩)
    rw [HW.out]
    go_wp2_with fail
    ((with_reducible refine (inRange_any _ _ _ _).mono ?_); rintro e w' ⟨rfl, rfl⟩)
    rw [HT.out]
    go_wp2_with fail
    (first | go_returns | (refine bodyPost_ret (by simp [results, Try.results54, go_sem, *]; try rfl) rfl ?_))
    exact ⟨by rw [HE.out]; rfl, hb1⟩
  have hv' := hv
  rw [lineV, Bool.and_eq_true] at hv'
  obtain ⟨hok, hl⟩ := hv'
  obtain ⟨a, u, ef, et, hau, hun, _, hF, _⟩ := ln_iff hn hl
  subst ef et
  obtain ⟨d0, d1⟩ := inR_iff.1 hw
  have he : lcV xs d tol ((a : Int) - 1) (u : Int) = if costOk xs a u d tol then some (costV xs a u d tol) else none := by rw [lcV_yes hok hw ht]; exact lc_at rfl rfl hl
  have hfin : optV (lcV xs d tol ((a : Int) - 1) (u : Int)) = .tuple #[.int .i64 (costV xs a u d tol), .bool (costOk xs a u d tol)] := by
    rw [he, optV]
    rcases hq : costOk xs a u d tol with _ | _
    · rw [show costV xs a u d tol = 0 by rw [costV, hq]; rfl]; rfl
    · rfl
  have HE := Lib.hid hfin
  have HV := Lib.hid hv
  have HW := Lib.hid hw
  have HT := Lib.hid ht
  have HOK := Lib.hid hok
  have HF := Lib.hid hF
  have HFA := Lib.hid (show (a : Int) - 1 + 1 = (a : Int) by omega)
  clear hv hw ht hok hF hl he hfin
  go_enter Try.func54, Try.ntmps54
  go_wp2_with fail
  ((with_reducible refine (validLine_s _ _ _ _ _ xs _ hn hm ?_).mono ?_); (exact HR.out); rintro e w1 ⟨rfl, hb1⟩)
  rw [HV.out]
  have hr1 := HR.out.then_ hb1
  go_wp2_with fail
  ((with_reducible refine (validWidth_any _ _).mono ?_); rintro e w' ⟨rfl, rfl⟩)
  rw [HW.out]
  go_wp2_with fail
  ((with_reducible refine (inRange_any _ _ _ _).mono ?_); rintro e w' ⟨rfl, rfl⟩)
  rw [HT.out]
  go_wp2_with fail
  ((with_reducible refine (lineCost_s _ _ _ a u _ _ _ xs _ HOK.out hn HF.out HFA.out hau hun ?_ d0 d1).mono ?_); (exact hr1); rintro e w3 ⟨rfl, hb3⟩)
  go_wp2_with fail
  (first | go_returns | (refine bodyPost_ret (by simp [results, Try.results54, go_sem, *]; try rfl) rfl ?_))
  exact ⟨by rw [HE.out]; rfl, below_then (Nat.le_refl _) hb1 hb3⟩
end Go.Proofs.Ytkmipgekmbngcaa
