/- CheckShape, of the program and of the reference, returns what the plain function says. Conditions: the slices read as lists. -/
import Derived.Test.YtkmipgekmbngcaaMSb9
import Derived.Test.YtkmipgekmbngcaaQuietTail
namespace Go.Proofs.Ytkmipgekmbngcaa
open Go.RowKit Go.Shelf

def chkV (xs : List It) (sh : List Int) (tol : Int) (bs : List Int) : Option Int := if itemsOk xs && shapeOk sh && inR tol 0 10000 then chkP xs (wof sh) tol bs else none
section
variable {xs : List It} {sh bs : List Int} {tol : Int}
theorem chkV_no1 (h : itemsOk xs = false) : chkV xs sh tol bs = none := by rw [chkV, h]; rfl
theorem chkV_no2 (h : shapeOk sh = false) : chkV xs sh tol bs = none := by rw [chkV, h, Bool.and_false]; rfl
theorem chkV_no3 (h : inR tol 0 10000 = false) : chkV xs sh tol bs = none := by rw [chkV, h, Bool.and_false]; rfl
theorem chkV_yes (h0 : itemsOk xs = true) (h1 : shapeOk sh = true) (h2 : inR tol 0 10000 = true) : chkV xs sh tol bs = chkP xs (wof sh) tol bs := by rw [chkV, h0, h1, h2]; rfl
theorem chkV_of_none (h : chkP xs (wof sh) tol bs = none) : chkV xs sh tol bs = none := by rw [chkV, h]; split <;> rfl
end

theorem shapeFn_i (g ns capn : Nat) (S : Option Addr) (sh : List Int) (k : Nat) (w : World) (hg : Blk w g 24 #[.slice S ns capn]) (hok : shapeOk sh = true) (hn : sh.length = ns) (hk : k ≤ maxLen) (hr : Row w w.heap.size 1 S ns (inc sh)) :
    Calls Try.prog 47 #[.int .i64 (k : Int), .pointer (some ⟨g, 0, none⟩)] w fun e w' => e = .returned (.int .i64 (wof sh k)) ∧ Below w.heap.size w w' := by
  have hl := shapeOk_len hok
  unfold maxLen at hk
  have HE := Lib.hid (wol_yes (k := k) hok)
  have plt := hg.lt
  have pc0 := hg.cell 0; have pf0 := hg.frozen 0
  simp only [List.getElem?_toArray, List.getElem?_cons_zero] at pc0
  go_enter Try.func47, Try.ntmps47
  go_wp2_with fail
  ((with_reducible refine (widthOfLine_i _ _ _ _ sh _ hn (by unfold maxLen; omega) (by omega) ?_).mono ?_); (exact hr); rintro e w1 ⟨rfl, hb1⟩)
  go_wp2_with fail
  go_ret
  exact ⟨ret_int HE.out, hb1⟩

set_option maxRecDepth 100000 in
set_option maxHeartbeats 2000000 in
theorem checkShape_i (A S B : Option Addr) (n cap ns capn nb capb : Nat) (tol : Int) (xs : List It) (sh bs : List Int) (w : World) (hn : xs.length = n) (hm : n ≤ maxLen) (hcap : n ≤ cap ∧ cap ≤ maxLen) (hr : Row w w.heap.size 6 A n (itc xs))
    (hns : sh.length = ns) (hms : ns ≤ maxLen) (hrs : Row w w.heap.size 1 S ns (inc sh)) (hnb : bs.length = nb) (hmb : nb ≤ maxLen) (hrb : Row w w.heap.size 1 B nb (inc bs)) :
    Calls Try.prog 14 #[.slice A n cap, .slice S ns capn, .int .i64 tol, .slice B nb capb] w fun e w' => e = .returned (optV (chkV xs sh tol bs)) ∧ Below w.heap.size w w' := by
  have HR := Lib.hid hr
  have HRS := Lib.hid hrs
  have HRB := Lib.hid hrb
  have HNS := Lib.hid hns
  have HNB := Lib.hid hnb
  have eg : ∀ args w, (callFunc 47 args).run Try.prog w = .ok (.enter 47 args) w := enters_of Try.func47 (by kernel_rfl) rfl
  have EG := Lib.hid eg
  have g0 := Blk.new w 24 #[.slice S ns capn]
  have G0 := Lib.hid g0
  have hB0 : Below w.heap.size w (w.alloc (.cells #[.slice S ns capn] 24)) := (Below.refl _ _).alloc (Nat.le_refl _) _
  clear eg hrs hrb hns hnb
  rcases hv : itemsOk xs with _ | _
  · have HE := Lib.hid (chkV_no1 (sh := sh) (tol := tol) (bs := bs) hv)
    have HV := Lib.hid hv
    clear hv g0
    go_enter Try.func14, Try.ntmps14
    go_wp2_with fail
    ((with_reducible refine (validItems_i _ _ _ xs _ hn hm ?_).mono ?_); (exact HR.out.then_ hB0); rintro e w1 ⟨rfl, hb1⟩)
    rw [HV.out]
    go_wp2_with fail
    (first | go_returns | (refine bodyPost_ret (by simp [results, Try.results14, go_sem, *]; try rfl) rfl ?_))
    exact ⟨by rw [HE.out]; rfl, below_then (Nat.le_refl _) hB0 hb1⟩
  rcases hw : shapeOk sh with _ | _
  · have HE := Lib.hid (chkV_no2 (xs := xs) (tol := tol) (bs := bs) hw)
    have HV := Lib.hid hv
    have HW := Lib.hid hw
    clear hv hw g0
    go_enter Try.func14, Try.ntmps14
    go_wp2_with fail
    ((with_reducible refine (validItems_i _ _ _ xs _ hn hm ?_).mono ?_); (exact HR.out.then_ hB0); rintro e w1 ⟨rfl, hb1⟩)
    rw [HV.out]
    have g1 := G0.out.then_ hb1
    have hB1 := below_then (Nat.le_refl _) hB0 hb1
    have plt := g1.lt
    have pc0 := g1.cell 0; have pf0 := g1.frozen 0
    simp only [List.getElem?_toArray, List.getElem?_cons_zero] at pc0
    go_wp2_with fail
    ((with_reducible refine (validShape_i _ _ _ sh _ HNS.out hms ?_).mono ?_); (exact HRS.out.then_ hB1); rintro e w2 ⟨rfl, hb2⟩)
    rw [HW.out]
    have hB2 := below_then (Nat.le_refl _) hB1 hb2
    go_wp2_with fail
    (first | go_returns | (refine bodyPost_ret (by simp [results, Try.results14, go_sem, *]; try rfl) rfl ?_))
    exact ⟨by rw [HE.out]; rfl, hB2⟩
  rcases ht : inR tol 0 10000 with _ | _
  · have HE := Lib.hid (chkV_no3 (xs := xs) (sh := sh) (bs := bs) ht)
    have HV := Lib.hid hv
    have HW := Lib.hid hw
    have HT := Lib.hid ht
    clear hv hw ht g0
    go_enter Try.func14, Try.ntmps14
    go_wp2_with fail
    ((with_reducible refine (validItems_i _ _ _ xs _ hn hm ?_).mono ?_); (exact HR.out.then_ hB0); rintro e w1 ⟨rfl, hb1⟩)
    rw [HV.out]
    have g1 := G0.out.then_ hb1
    have hB1 := below_then (Nat.le_refl _) hB0 hb1
    have plt := g1.lt
    have pc0 := g1.cell 0; have pf0 := g1.frozen 0
    simp only [List.getElem?_toArray, List.getElem?_cons_zero] at pc0
    go_wp2_with fail
    ((with_reducible refine (validShape_i _ _ _ sh _ HNS.out hms ?_).mono ?_); (exact HRS.out.then_ hB1); rintro e w2 ⟨rfl, hb2⟩)
    rw [HW.out]
    have hB2 := below_then (Nat.le_refl _) hB1 hb2
    go_wp2_with fail
    ((with_reducible refine (within_any _ _ _ _).mono ?_); rintro e w' ⟨rfl, rfl⟩)
    rw [HT.out]
    go_wp2_with fail
    (first | go_returns | (refine bodyPost_ret (by simp [results, Try.results14, go_sem, *]; try rfl) rfl ?_))
    exact ⟨by rw [HE.out]; rfl, hB2⟩
  have HE := Lib.hid (chkV_yes (bs := bs) hv hw ht)
  have HV := Lib.hid hv
  have HW := Lib.hid hw
  have HT := Lib.hid ht
  clear hv hw ht g0
  go_enter Try.func14, Try.ntmps14
  go_wp2_with fail
  ((with_reducible refine (validItems_i _ _ _ xs _ hn hm ?_).mono ?_); (exact HR.out.then_ hB0); rintro e w1 ⟨rfl, hb1⟩)
  rw [HV.out]
  have g1 := G0.out.then_ hb1
  have hB1 := below_then (Nat.le_refl _) hB0 hb1
  have plt := g1.lt
  have pc0 := g1.cell 0; have pf0 := g1.frozen 0
  simp only [List.getElem?_toArray, List.getElem?_cons_zero] at pc0
  go_wp2_with fail
  ((with_reducible refine (validShape_i _ _ _ sh _ HNS.out hms ?_).mono ?_); (exact HRS.out.then_ hB1); rintro e w2 ⟨rfl, hb2⟩)
  rw [HW.out]
  have hB2 := below_then (Nat.le_refl _) hB1 hb2
  have g2 := g1.then_ hb2
  go_wp2_with fail
  ((with_reducible refine (within_any _ _ _ _).mono ?_); rintro e w' ⟨rfl, rfl⟩)
  rw [HT.out]
  go_wp2_with fail
  ((with_reducible refine (sumLines_i 47 #[.pointer (some ⟨w.heap.size, 0, none⟩)] _ _ _ _ _ _ xs bs (wof sh) _ _ EG.out HV.out hn hcap ?_ HNB.out hmb ?_ (wof_bound HW.out) ?_).mono ?_); (exact HR.out.then_ hB2); (exact HRB.out.then_ hB2); rotate_left; rintro e w3 ⟨rfl, hb3⟩)
  · have hB3 := below_then (Nat.le_refl _) hB2 hb3
    go_wp2_with fail
    (first | go_returns | (refine bodyPost_ret (by simp [results, Try.results14, go_sem, *]; try rfl) rfl ?_))
    exact ⟨by rw [HE.out]; rfl, hB3⟩
  · intro k W hk hW
    exact shapeFn_i _ _ _ _ sh k W (g2.then_ hW) HW.out HNS.out (Nat.le_trans (Nat.le_of_lt hk) hmb) ((HRS.out.then_ hB2).then_ hW)
end Go.Proofs.Ytkmipgekmbngcaa
