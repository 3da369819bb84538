/- The breaks of a paragraph, of the program, are what the plain function says. Conditions: the slice reads as the list. -/
import Derived.Test.YtkmipgekmbngcaaMSb6
import Derived.Test.YtkmipgekmbngcaaMSb4
import Derived.Test.YtkmipgekmbngcaaItemLs
namespace Go.Proofs.Ytkmipgekmbngcaa
open Go.RowKit

set_option maxHeartbeats 1000000 in
theorem breaksOf_i (A : Option Addr) (n cap : Nat) (xs : List It) (w : World) (hn : xs.length = n) (hm : n ≤ maxLen) (hr : Row w w.heap.size 6 A n (itc xs)) :
    Calls Try.prog 80 #[.slice A n cap] w (IntsOut w (brksV xs)) := by
  have HN := Lib.hid hn
  have HR := Lib.hid hr
  obtain ⟨i0, hi, hz0, hz1, hz2⟩ := info_parts int_info
  rcases hok : itemsOk xs with _ | _
  · have e := brksV_no hok
    have HE := Lib.hid e
    have HOK := Lib.hid hok
    clear e hok
    go_enter Try.func80, Try.ntmps80
    go_wp2_with fail
    ((with_reducible refine (validItems_i _ _ _ xs _ HN.out hm ?_).mono ?_); (exact HR.out); rintro e w1 ⟨rfl, hb1⟩)
    rw [HOK.out]
    have hB1 : Below w.heap.size w w1 := hb1
    go_wp2_with fail
    go_ret
    exact ints_of HE.out rfl (ownI_none _ _) hB1
  have h60 := (itemsOk_len hok hn).2
  have e := brksV_yes hok hn
  have HE := Lib.hid e
  have HOK := Lib.hid hok
  clear e hok
  go_enter Try.func80, Try.ntmps80
  go_wp2_with fail
  ((with_reducible refine (validItems_i _ _ _ xs _ HN.out hm ?_).mono ?_); (exact HR.out); rintro e w1 ⟨rfl, hb1⟩)
  rw [HOK.out]
  have hB1 : Below w.heap.size w w1 := hb1
  go_wp2_with fail
  go_loopg [3, 10] n (fun k o i wr => ∃ (j q c : Nat) (B : Option Addr) (out : List Int), j ≤ n ∧ q ≤ j ∧ k = n - j ∧ i = .int .i64 (j : Int) ∧ o = .slice B q c ∧ Hid (brksP xs j = out) ∧ Hid (OwnI wr w.heap.size B q c out) ∧ Below w.heap.size w wr)
  case atStart => exact ⟨0, 0, 0, none, [], Nat.zero_le _, Nat.le_refl _, rfl, rfl, rfl, rfl, ownI_none _ _, hB1⟩
  case round =>
    obtain ⟨j, q, c, B, out, hj, hq, hk, rfl, rfl, hbx, hown, hbel⟩ := hrel
    have HK := Lib.hid hk; clear hk
    have hsz := hbel.size
    by_cases hlt : j < n
    · have hlt' : (j : Int) < (n : Int) := by omega
      go_wp2_with fail
      ((with_reducible refine (isBreak_i _ _ _ j xs _ HN.out hlt h60 ?_).mono ?_); (exact (hr.below hbel).more hsz); rintro e w2 ⟨rfl, hb2⟩)
      have hB2 : Below w.heap.size w w2 := below_then (Nat.le_refl _) hbel hb2
      have hs2 := hB2.size
      rcases hb : brk xs j with _ | _
      · have hnew : brksP xs (j + 1) = out := by rw [brksP_succ, hb, hbx.out]; rfl
        have HNW := Lib.hid hnew
        clear hnew hb
        go_wp2_with fail
        go_roundg (n - (j + 1))
        case measure => have := HK.out; omega
        case rel => exact ⟨j + 1, q, c, B, out, by omega, by omega, rfl, by go_num, rfl, HNW.out, hown.out.then_ hb2, hB2⟩
      · have hnew : brksP xs (j + 1) = out ++ [(j : Int)] := by rw [brksP_succ, hb, hbx.out]; rfl
        have HNW := Lib.hid hnew
        have HO := Lib.hid ((hown.out.then_ hb2).alloc (.cells #[.int .i64 (j : Int)] 3))
        have HB := Lib.hid (Blk.new w2 3 #[.int .i64 (j : Int)])
        have hbase : w.heap.size ≤ (w2.alloc (.cells #[.int .i64 (j : Int)] 3)).heap.size := by simp; omega
        have hB3a := hB2.alloc hs2 (.cells #[.int .i64 (j : Int)] 3)
        clear hnew hb
        go_wp2_with (at_builtin; (refine wpList_append_one _ rfl _ _ 24 rfl w.heap.size 3 i0 _ 1 8 Try.underlying24 hi hz0 hz1 hz2 rfl (by omega) B q c (inl out) rfl HO.out w2.heap.size (inl [(j : Int)]) rfl rfl HB.out (inl_one _) (by omega) (by omega) hbase ?_); intro g4 c4 w4 hown4 hgr4; (have HO4 := Lib.hid hown4); (have hB4 := hB3a.grown hgr4 hB3a.size (fun j hj => (HO.out.lt j hj).1)); clear hown4 hgr4)
        go_roundg (n - (j + 1))
        case measure => have := HK.out; omega
        case rel => exact ⟨j + 1, q + 1, c4, some ⟨g4, 0, none⟩, out ++ [(j : Int)], by omega, by omega, rfl, by go_num, rfl, HNW.out, (by show World.ownsRow _ _ _ _ _ _ _; rw [inl_snoc]; exact HO4.out), hB4⟩
    · have ej : j = n := by omega
      go_wp2_with fail
      go_ret
      exact ints_of (by rw [HE.out, ← ej]; exact hbx.out) hown.out.len hown.out hbel
end Go.Proofs.Ytkmipgekmbngcaa
/- The cost of a step between the nodes of a paragraph: -1 and all items. No program. No condition. -/
namespace Go.Proofs.Ytkmipgekmbngcaa

/-- The cost of a step from node to node: node 0 is the beginning, node i + 1 is item i. -/
def ndC (xs : List It) (d tol : Int) (k i : Nat) : Option Int := lc xs d tol ((k : Int) - 1) ((i : Int) - 1)
end Go.Proofs.Ytkmipgekmbngcaa
/- Breaks that divide all items into lines, in plain terms. No program. No condition. -/
namespace Go.Proofs.Ytkmipgekmbngcaa

def lns (xs : List It) (bs : List Int) : Nat → Bool
  | 0 => true
  | j + 1 => lns xs bs j && lnOk xs (frm bs j) (bs.getD j default)
def vbV (xs : List It) (bs : List Int) : Bool := itemsOk xs && decide (0 < bs.length) && (frm bs bs.length == (xs.length : Int) - 1) && lns xs bs bs.length
section
variable {xs : List It} {bs : List Int} {j n m : Nat}
theorem lns_yes (h : lns xs bs j = true) (h' : lnOk xs (frm bs j) (bs.getD j default) = true) : lns xs bs (j + 1) = true := by rw [lns, h, h']; rfl
theorem lns_no (h' : lnOk xs (frm bs j) (bs.getD j default) = false) : lns xs bs (j + 1) = false := by rw [lns, h', Bool.and_false]
theorem lns_stop (h : lns xs bs j = false) (i : Nat) : lns xs bs (j + i) = false := by
  induction i with
  | zero => exact h
  | succ i ih => rw [← Nat.add_assoc, lns, ih]; rfl
theorem lns_of (h : lns xs bs n = true) : ∀ j, j < n → lnOk xs (frm bs j) (bs.getD j default) = true := by
  intro j hj
  rcases hq : lnOk xs (frm bs j) (bs.getD j default) with _ | _
  · have := lns_stop (lns_no hq) (n - (j + 1))
    rw [show j + 1 + (n - (j + 1)) = n by omega, h] at this
    cases this
  · rfl
theorem lns_b (hok : itemsOk xs = true) (hn : xs.length = n) : ∀ j, lns xs bs j = true → (j : Int) ≤ frm bs j + 1 ∧ frm bs j < (n : Int) := by
  intro j
  induction j with
  | zero => intro _; have := (itemsOk_len hok hn).1; simp [frm]; omega
  | succ j ih =>
    intro h
    rw [lns, Bool.and_eq_true] at h
    obtain ⟨h1, h2⟩ := ih h.1
    obtain ⟨a, u, e1, e2, h3, h4, _⟩ := ln_iff hn h.2
    rw [frm_succ, e2]
    omega
theorem vb_no1 (h : itemsOk xs = false) : vbV xs bs = false := by rw [vbV, h]; rfl
theorem vb_zero (h : bs.length = 0) : vbV xs bs = false := by rw [vbV, h]; simp
theorem vb_last (hn : bs.length = m) (hx : xs.length = n) {f : Int} (hf : frm bs m = f) (h : ¬ f = (n : Int) - 1) : vbV xs bs = false := by
  rw [vbV, hn, hf, hx, show (f == (n : Int) - 1) = false by simpa using h]
  simp
theorem vb_bad (hn : bs.length = m) (h : lnOk xs (frm bs j) (bs.getD j default) = false) (hj : j < m) : vbV xs bs = false := by
  have := lns_stop (lns_no h) (m - (j + 1))
  rw [show j + 1 + (m - (j + 1)) = m by omega] at this
  rw [vbV, hn, this, Bool.and_false]
theorem vb_yes (h0 : itemsOk xs = true) (hn : bs.length = m) (hp : 0 < m) (hx : xs.length = n) {f : Int} (hf : frm bs m = f) (h : f = (n : Int) - 1) (hl : lns xs bs m = true) : vbV xs bs = true := by
  rw [vbV, h0, hn, hf, hx, h, hl, decide_eq_true hp]
  simp
theorem vb_iff (hn : bs.length = m) (hx : xs.length = n) (h : vbV xs bs = true) : itemsOk xs = true ∧ 0 < m ∧ frm bs m = (n : Int) - 1 ∧ lns xs bs m = true := by
  simp only [vbV, Bool.and_eq_true, decide_eq_true_eq, beq_iff_eq, hn, hx] at h
  exact ⟨h.1.1.1, h.1.1.2, h.1.2, h.2⟩
theorem frm_last (h : 0 < m) : frm bs m = bs.getD (m - 1) default := by rw [frm, if_neg (by omega)]
end
end Go.Proofs.Ytkmipgekmbngcaa
