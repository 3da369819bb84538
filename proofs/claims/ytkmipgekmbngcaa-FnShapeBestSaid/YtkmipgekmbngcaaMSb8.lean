/- The stops of a paragraph: -1 and the breaks. Conditions: the slice reads as the list. -/
import Derived.Test.YtkmipgekmbngcaaMSb7
import Derived.Test.YtkmipgekmbngcaaItemG
import Derived.Test.YtkmipgekmbngcaaInts
namespace Go.Proofs.Ytkmipgekmbngcaa
open Go.RowKit

def stps (xs : List It) : List Int := [-1] ++ brksV xs
theorem breakStops_i (A : Option Addr) (n cap : Nat) (xs : List It) (w : World) (hn : xs.length = n) (hm : n ≤ 60) (hr : Row w w.heap.size 6 A n (itc xs)) :
    Calls Try.prog 56 #[.slice A n cap] w (IntsOut w (stps xs)) := by
  have hr1 := hr.alloc' (.cells #[.int .i64 (-1)] 3)
  have hB0 : Below w.heap.size w (w.alloc (.cells #[.int .i64 (-1)] 3)) := (Below.refl _ _).alloc (Nat.le_refl _) _
  have hown : OwnI (w.alloc (.cells #[.int .i64 (-1)] 3)) w.heap.size (some ⟨w.heap.size, 0, none⟩) 1 1 [-1] :=
    ⟨rfl, .inr ⟨w.heap.size, 1, #[.int .i64 (-1)], rfl, Nat.le_refl _, heap_alloc_new w _, Nat.le_refl _, by unfold maxLen; omega, rfl, rfl⟩⟩
  have HO0 := Lib.hid hown
  have HR1 := Lib.hid hr1
  have hl := brksV_len xs
  rw [hn] at hl
  obtain ⟨ys, hy⟩ : ∃ ys, brksV xs = ys := ⟨_, rfl⟩
  have hst : stps xs = [-1] ++ ys := by rw [stps, hy]
  have HST := Lib.hid hst
  have HY := Lib.hid hy
  rw [hy] at hl
  clear hown hr1 hy hst
  go_enter Try.func56, Try.ntmps56
  go_wp2_with fail
  ((with_reducible refine (breaksOf_i _ _ _ xs _ hn (by unfold maxLen; omega) ?_).mono ?_); (exact HR1.out); rintro e w1 ⟨D, d, rfl, hD, hb1⟩)
  have hs1 := hb1.size
  rw [HY.out] at hD ⊢
  have HD := Lib.hid hD
  have HO1 := Lib.hid (HO0.out.then_ hb1)
  have hB1 := below_then (Nat.le_refl _) hB0 hb1
  have hz1 := hB1.size
  clear hD
  go_wp2_with (at_builtin; (refine wpList_append_ints _ rfl _ _ rfl w.heap.size (w.alloc (.cells #[.int .i64 (-1)] 3)).heap.size w.heap.size 1 1 ys.length d D [-1] ys rfl HO1.out rfl HD.out (by omega) hz1 ?_); intro g4 c4 w4 hown4 hgr4; (have HO4 := Lib.hid hown4); (have hB4 := hB1.grown hgr4 hz1 (fun j hj => by injection hj with hj; omega)); clear hown4 hgr4)
  go_ret
  refine ints_of HST.out (by simp; omega) HO4.out hB4
end Go.Proofs.Ytkmipgekmbngcaa
/- ValidBreaks of the program answers as the plain function says. Conditions: the slices read as lists. -/
namespace Go.Proofs.Ytkmipgekmbngcaa
open Go.RowKit


set_option maxRecDepth 100000 in
set_option maxHeartbeats 4000000 in
theorem validBreaks_i (A B : Option Addr) (n cap nb capb : Nat) (xs : List It) (bs : List Int) (w : World) (hn : xs.length = n) (hm : n ≤ maxLen) (hcap : n ≤ cap ∧ cap ≤ maxLen) (hr : Row w w.heap.size 6 A n (itc xs)) (hbn : bs.length = nb) (hbm : nb ≤ maxLen) (hbr : Row w w.heap.size 1 B nb (inc bs)) :
    Calls Try.prog 15 #[.slice A n cap, .slice B nb capb] w fun e w' => e = .returned (.bool (vbV xs bs)) ∧ Below w.heap.size w w' := by
  unfold maxLen at hbm
  have HN := Lib.hid hn
  have HR := Lib.hid hr
  have HBN := Lib.hid hbn
  have HBR := Lib.hid hbr
  clear hn hr
  rcases hv : itemsOk xs with _ | _
  · have HE := Lib.hid (vb_no1 (bs := bs) hv)
    have HV := Lib.hid hv
    clear hv hbn hbr
    go_enter Try.func15, Try.ntmps15
    go_wp2_with fail
    ((with_reducible refine (validItems_i _ _ _ xs _ HN.out hm ?_).mono ?_); (exact HR.out); rintro e w1 ⟨rfl, hb1⟩)
    rw [HV.out]
    go_wp2_with fail
    go_ret
    exact ⟨ret_bool HE.out.symm, hb1⟩
  have hm60 := (itemsOk_len hv HN.out).2
  have hm1 := (itemsOk_len hv HN.out).1
  by_cases hz : nb = 0
  · subst hz
    have HE := Lib.hid (vb_zero (xs := xs) hbn)
    have HV := Lib.hid hv
    clear hv hbn hbr
    go_enter Try.func15, Try.ntmps15
    go_wp2_with fail
    ((with_reducible refine (validItems_i _ _ _ xs _ HN.out hm ?_).mono ?_); (exact HR.out); rintro e w1 ⟨rfl, hb1⟩)
    rw [HV.out]
    go_wp2_with fail
    go_ret
    exact ⟨ret_bool HE.out.symm, hb1⟩
  have hpos : 0 < nb := by omega
  have hzf : ((nb : Int) == 0) = false := by simpa using hz
  obtain ⟨b, off, rfl, hb, hc⟩ := id hbr hpos
  obtain ⟨L, hL⟩ : ∃ L, bs.getD (nb - 1) default = L := ⟨_, rfl⟩
  have k0 : w.cell? ⟨b, off + (nb - 1), none⟩ = some (.int .i64 L) := by
    have := hc (nb - 1) 0 (by omega) (by omega)
    simpa only [inc, hL, Nat.mul_one, Nat.add_zero] using this
  have hfl : frm bs nb = L := by rw [frm_last hpos, hL]
  have HFL := Lib.hid hfl
  have K0 := Lib.hid k0
  by_cases hl : L = (n : Int) - 1
  case neg =>
    have HE := Lib.hid (vb_last hbn HN.out hfl hl)
    have hlf : (L == (n : Int) - 1) = false := by simpa using hl
    have HV := Lib.hid hv
    clear hv hbn hbr hc hL hl hfl k0
    go_enter Try.func15, Try.ntmps15
    go_wp2_with fail
    ((with_reducible refine (validItems_i _ _ _ xs _ HN.out hm ?_).mono ?_); (exact HR.out); rintro e w1 ⟨rfl, hb1⟩)
    rw [HV.out]
    have c0 := (hb1.cell (p := ⟨b, off + (nb - 1), none⟩) hb).trans K0.out
    go_wp2_with fail
    go_ret
    exact ⟨ret_bool HE.out.symm, hb1⟩
  have HV := Lib.hid hv
  have HC := Lib.hid hc
  clear hv hbn hbr hc hL hfl k0
  subst hl
  go_enter Try.func15, Try.ntmps15
  go_wp2_with fail
  ((with_reducible refine (validItems_i _ _ _ xs _ HN.out hm ?_).mono ?_); (exact HR.out); rintro e w1 ⟨rfl, hb1⟩)
  rw [HV.out]
  have c0 := (hb1.cell (p := ⟨b, off + (nb - 1), none⟩) hb).trans K0.out
  go_wp2_with fail
  clear c0 hz hzf
  go_loopg [5, 30] nb (fun k fv i wr => ∃ (j : Nat) (f : Int), j ≤ nb ∧ k = nb - j ∧ i = .int .i64 (j : Int) ∧ fv = .int .i64 f ∧ Hid (lns xs bs j = true) ∧ Hid (frm bs j = f) ∧ Below w.heap.size w wr)
  case atStart => exact ⟨0, -1, Nat.zero_le _, rfl, rfl, rfl, rfl, rfl, hb1⟩
  case round =>
    obtain ⟨j, f, hj, hk, rfl, rfl, hs, hf, hbel⟩ := hrel
    have HK := Lib.hid hk; clear hk
    have hsz := hbel.size
    by_cases hlt : j < nb
    · obtain ⟨t, ht⟩ : ∃ t, bs.getD j default = t := ⟨_, rfl⟩
      have c0 : wr.cell? ⟨b, off + j, none⟩ = some (.int .i64 t) := by
        have := (hbel.cell (p := ⟨b, off + j, none⟩) hb).trans (by have := HC.out j 0 hlt (by omega); simpa only [inc, ht, Nat.mul_one, Nat.add_zero] using this)
        exact this
      have hjn : (j : Int) < (nb : Int) := by omega
      have HT := Lib.hid ht
      clear ht
      go_wp2_with fail
      ((with_reducible refine (isLine_i _ _ _ _ _ xs _ HN.out hm60 hcap ?_).mono ?_); (exact (HR.out.below hbel).more hbel.size); rintro e w1 ⟨rfl, hb1⟩)
      have hB1 := below_then (Nat.le_refl _) hbel hb1
      rcases hl : lnOk xs f t with _ | _
      · have HE := Lib.hid (vb_bad (xs := xs) (j := j) HBN.out (by rw [hf.out, HT.out]; exact hl) hlt)
        clear hl
        go_wp2_with fail
        go_ret
        exact ⟨ret_bool HE.out.symm, hB1⟩
      · have HS := Lib.hid (lns_yes hs.out (by rw [hf.out, HT.out]; exact hl))
        clear hl
        go_wp2_with fail
        go_roundg (nb - (j + 1))
        case measure => have := HK.out; omega
        case rel => exact ⟨j + 1, t, by omega, rfl, by go_num, rfl, HS.out, by show _ = _; rw [frm_succ, HT.out], hB1⟩
    · have ej : j = nb := by omega
      subst ej
      have HE := Lib.hid (vb_yes HV.out HBN.out hpos HN.out HFL.out rfl hs.out)
      go_wp2_with fail
      go_ret
      exact ⟨ret_bool HE.out.symm, hbel⟩
end Go.Proofs.Ytkmipgekmbngcaa
