/- The breaks of a paragraph, of the reference, are what the plain function says; append of numbers behind a row of the call's own. Conditions: the slice reads as the list. -/
import Derived.Test.YtkmipgekmbngcaaItemSp
import Derived.Test.YtkmipgekmbngcaaInts
import Derived.Test.YtkmipgekmbngcaaMSb2
import Derived.Laws.AppendOwnNone
import Derived.Test.YtkmipgekmbngcaaMSb5
import Derived.Test.YtkmipgekmbngcaaCostPlain
import Derived.Test.YtkmipgekmbngcaaItemL
namespace Go.Proofs.Ytkmipgekmbngcaa
open Go.RowKit

def brksP (l : List It) (j : Nat) : List Int := ((List.range j).filter (brk l)).map fun (i : Nat) => (i : Int)
def brksV (l : List It) : List Int := if itemsOk l then brksP l l.length else []
theorem brksP_succ (l : List It) (j : Nat) : brksP l (j + 1) = if brk l j then brksP l j ++ [(j : Int)] else brksP l j := by
  unfold brksP
  rw [List.range_succ, List.filter_append, List.map_append]
  by_cases h : brk l j
  · simp [h]
  · simp [h]
theorem brksP_len (l : List It) (j : Nat) : (brksP l j).length ≤ j := by
  unfold brksP
  rw [List.length_map]
  refine Nat.le_trans (List.length_filter_le _ _) ?_
  simp
theorem brksV_no {l : List It} (h : itemsOk l = false) : brksV l = [] := by simp [brksV, h]
theorem brksV_yes {l : List It} {n : Nat} (h : itemsOk l = true) (hn : l.length = n) : brksV l = brksP l n := by simp [brksV, h, hn]
theorem brksV_len (l : List It) : (brksV l).length ≤ l.length := by
  rcases h : itemsOk l with _ | _
  · rw [brksV_no h]; simp
  · rw [brksV_yes h rfl]; exact brksP_len _ _

theorem wpList_append_ints (w : World) {ops : Array Oper} {rest : List Oper} {o : Oper} {a : Act} {Q : Exit → Act → World → Prop} (hgd : o.guard = none) (s x : Operand)
    (ho : o.op = .call { callee := .builtin .append, args := #[s, x], argTypes := #[24, 24] })
    (base base2 gs n c m d : Nat) (A : Option Addr) (xs ys : List Int) (hs : a.eval s = .slice (some ⟨gs, 0, none⟩) n c) (hown : OwnI w base (some ⟨gs, 0, none⟩) n c xs) (hx : a.eval x = .slice A m d) (hown2 : OwnI w base2 A m d ys)
    (hn : n + m ≤ 1048576) (hbase : base ≤ w.heap.size)
    (h : ∀ g c' w', OwnI w' base (some ⟨g, 0, none⟩) (n + m) c' (xs ++ ys) → w.grownBy w' (some gs) → wpList Try.prog ops Q rest (a.put o.dst (.slice (some ⟨g, 0, none⟩) (n + m) c')) w') : wpList Try.prog ops Q (o :: rest) a w := by
  obtain ⟨i0, hi, hz0, hz1, hz2⟩ := info_parts int_info
  have hl2 := hown2.len
  rcases hown2.2 with ⟨hv, _⟩ | ⟨g', cap, cur, hv, _, _, _⟩
  · cases hv
    refine wpList_append_own_none hgd s x 24 ho base 3 i0 1 Try.underlying24 hi _ n (inl xs) hs hown hx ?_
    have e : ys = [] := List.eq_nil_of_length_eq_zero hl2
    subst e
    exact h gs c w (by rw [List.append_nil]; exact hown) ⟨rfl, rfl, rfl, Nat.le_refl _, fun _ _ _ => rfl⟩
  · cases hv
    refine wpList_append_two w hgd s x 24 ho base 3 i0 _ 1 8 Try.underlying24 hi hz0 hz1 hz2 rfl (by omega) gs n c (inl xs) hs hown g' m d base2 (inl ys) hx hown2 (inl_one _) hn (by omega) hbase ?_
    intro g c' w' h1 h2
    exact h g c' w' (by show World.ownsRow _ _ _ _ _ _ _; unfold inl at h1 ⊢; rw [List.map_append]; exact h1) h2

set_option maxHeartbeats 1000000 in
theorem breaksOf_s (A : Option Addr) (n cap : Nat) (xs : List It) (w : World) (hn : xs.length = n) (hm : n ≤ maxLen) (hr : Row w w.heap.size 6 A n (itc xs)) :
    Calls Try.prog 78 #[.slice A n cap] w (IntsOut w (brksV xs)) := by
  have HN := Lib.hid hn
  have HR := Lib.hid (hr.alloc' (.cells #[] 3))
  obtain ⟨i0, hi, hz0, hz1, hz2⟩ := info_parts int_info
  rcases hok : itemsOk xs with _ | _
  · have e := brksV_no hok
    have HE := Lib.hid e
    have HOK := Lib.hid hok
    clear e hok
    go_enter Try.func78, Try.ntmps78
    go_wp2_with fail
    ((with_reducible refine (validItems_s _ _ _ xs _ HN.out hm ?_).mono ?_); (exact HR.out); rintro e w1 ⟨rfl, hb1⟩)
    rw [HOK.out]
    have hB1 : Below w.heap.size w w1 := below_then (Nat.le_refl _) (by (repeat' (first | (with_reducible exact Below.refl _ _) | (with_reducible assumption) | (with_reducible refine Below.alloc ?_ ?_ _) | (with_reducible refine Below.drew ?_) | (with_reducible refine below_drewN ?_ _) | (with_reducible refine Below.setCell ?_ ?_ _) | (with_reducible refine below_then ?_ ?_ (by with_reducible assumption)) | (with_reducible exact Nat.le_refl _) | go_size | (simp only [*]; done)))) hb1
    go_wp2_with fail
    go_ret
    exact ints_of HE.out rfl (ownI_none _ _) hB1
  have h60 := (itemsOk_len hok hn).2
  have e := brksV_yes hok hn
  have HE := Lib.hid e
  have HOK := Lib.hid hok
  have hE := Lib.hid (Blk.new w 3 #[])
  clear e hok
  go_enter Try.func78, Try.ntmps78
  go_wp2_with fail
  ((with_reducible refine (validItems_s _ _ _ xs _ HN.out hm ?_).mono ?_); (exact HR.out); rintro e w1 ⟨rfl, hb1⟩)
  rw [HOK.out]
  have hB1 : Below w.heap.size w w1 := below_then (Nat.le_refl _) (by (repeat' (first | (with_reducible exact Below.refl _ _) | (with_reducible assumption) | (with_reducible refine Below.alloc ?_ ?_ _) | (with_reducible refine Below.drew ?_) | (with_reducible refine below_drewN ?_ _) | (with_reducible refine Below.setCell ?_ ?_ _) | (with_reducible refine below_then ?_ ?_ (by with_reducible assumption)) | (with_reducible exact Nat.le_refl _) | go_size | (simp only [*]; done)))) hb1
  have hE1 := Lib.hid (hE.out.then_ hb1)
  go_wp2_with fail
  go_loopg [3, 4] n (fun k o i wr => ∃ (j q c g : Nat) (out : List Int), j ≤ n ∧ q ≤ j ∧ k = n - j ∧ i = .int .i64 (j : Int) ∧ o = .slice (some ⟨g, 0, none⟩) q c ∧ Hid (brksP xs j = out) ∧ Hid (OwnI wr w.heap.size (some ⟨g, 0, none⟩) q c out) ∧ Below w.heap.size w wr)
  case atStart => exact ⟨0, 0, 0, w.heap.size, [], Nat.zero_le _, Nat.le_refl _, rfl, rfl, rfl, rfl, owns_nil _ _ _ _ _ _ _ hE1.out (Nat.le_refl _) (by unfold maxLen; omega) rfl, hB1⟩
  case round =>
    obtain ⟨j, q, c, g, out, hj, hq, hk, rfl, rfl, hbx, hown, hbel⟩ := hrel
    have HK := Lib.hid hk; clear hk
    have hsz := hbel.size
    by_cases hlt : j < n
    · have hlt' : (j : Int) < (n : Int) := by omega
      go_wp2_with fail
      ((with_reducible refine (isBreak_s _ _ _ j xs _ HN.out hlt hm ?_).mono ?_); (exact (hr.below hbel).more hsz); rintro e w2 ⟨rfl, hb2⟩)
      have hB2 : Below w.heap.size w w2 := below_then (Nat.le_refl _) hbel hb2
      have hs2 := hB2.size
      rcases hb : brk xs j with _ | _
      · have hnew : brksP xs (j + 1) = out := by rw [brksP_succ, hb, hbx.out]; rfl
        have HNW := Lib.hid hnew
        clear hnew hb
        go_wp2_with fail
        go_roundg (n - (j + 1))
        case measure => have := HK.out; omega
        case rel => exact ⟨j + 1, q, c, g, out, by omega, by omega, rfl, by go_num, rfl, HNW.out, hown.out.then_ hb2, hB2⟩
      · have hnew : brksP xs (j + 1) = out ++ [(j : Int)] := by rw [brksP_succ, hb, hbx.out]; rfl
        have HNW := Lib.hid hnew
        have HO := Lib.hid ((hown.out.then_ hb2).alloc (.cells #[.int .i64 (j : Int)] 3))
        have HB := Lib.hid (Blk.new w2 3 #[.int .i64 (j : Int)])
        have hbase : w.heap.size ≤ (w2.alloc (.cells #[.int .i64 (j : Int)] 3)).heap.size := by simp; omega
        have hB3a := hB2.alloc hs2 (.cells #[.int .i64 (j : Int)] 3)
        clear hnew hb
        go_wp2_with (at_builtin; (refine wpList_append_one _ rfl _ _ 24 rfl w.heap.size 3 i0 _ 1 8 Try.underlying24 hi hz0 hz1 hz2 rfl (by omega) (some ⟨g, 0, none⟩) q c (inl out) rfl HO.out w2.heap.size (inl [(j : Int)]) rfl rfl HB.out (inl_one _) (by omega) (by omega) hbase ?_); intro g4 c4 w4 hown4 hgr4; (have HO4 := Lib.hid hown4); (have hB4 := hB3a.grown hgr4 hB3a.size (fun j hj => (HO.out.lt j hj).1)); clear hown4 hgr4)
        go_roundg (n - (j + 1))
        case measure => have := HK.out; omega
        case rel => exact ⟨j + 1, q + 1, c4, g4, out ++ [(j : Int)], by omega, by omega, rfl, by go_num, rfl, HNW.out, (by show World.ownsRow _ _ _ _ _ _ _; rw [inl_snoc]; exact HO4.out), hB4⟩
    · have ej : j = n := by omega
      go_wp2_with fail
      go_ret
      exact ints_of (by rw [HE.out, ← ej]; exact hbx.out) hown.out.len hown.out hbel
end Go.Proofs.Ytkmipgekmbngcaa
/- The sum of the costs of the lines that end at given breaks, in plain terms. No program. No condition. -/
namespace Go.Proofs.Ytkmipgekmbngcaa

/-- What the line between the breaks f and t costs, if it is one and may be set. -/
def lc (xs : List It) (d tol f t : Int) : Option Int := if lnOk xs f t && costOk xs (f + 1).toNat t.toNat d tol then some (costV xs (f + 1).toNat t.toNat d tol) else none
def frm (bs : List Int) (j : Nat) : Int := if j = 0 then -1 else bs.getD (j - 1) default
def sumJ (xs : List It) (wd : Nat → Int) (tol : Int) (bs : List Int) : Nat → Option Int
  | 0 => some 0
  | j + 1 => match sumJ xs wd tol bs j with
    | none => none
    | some s => match lc xs (wd j) tol (frm bs j) (bs.getD j default) with
      | none => none
      | some c => some (s + c)
def chkP (xs : List It) (wd : Nat → Int) (tol : Int) (bs : List Int) : Option Int := if bs.length = 0 then none else if frm bs bs.length = (xs.length : Int) - 1 then sumJ xs wd tol bs bs.length else none
theorem frm_succ (bs : List Int) (j : Nat) : frm bs (j + 1) = bs.getD j default := by rw [frm, if_neg (by omega), Nat.add_sub_cancel]
section
variable {xs : List It} {wd : Nat → Int} {tol : Int} {bs : List Int} {j : Nat} {s d f t : Int}
theorem lc_line (h : lnOk xs f t = false) : lc xs d tol f t = none := by rw [lc, h]; rfl
theorem lc_at {a u : Nat} (hf : f = (a : Int) - 1) (ht : t = (u : Int)) (h : lnOk xs f t = true) : lc xs d tol f t = if costOk xs a u d tol then some (costV xs a u d tol) else none := by
  subst hf ht
  rw [lc, h, Bool.true_and, show ((a : Int) - 1 + 1).toNat = a by omega, Int.toNat_natCast]
theorem costV_b {n a u : Nat} (hok : itemsOk xs = true) (hn : xs.length = n) (hu : u < n) (d0 : 1 ≤ d) (d1 : d ≤ 10000) : -200000000 ≤ costV xs a u d tol ∧ costV xs a u d tol ≤ 200000000 := by
  obtain ⟨b0, b1⟩ := lnB_b (a := a) hok hn hu (show 0 ≤ d by omega) d1
  obtain ⟨_, _, _, ⟨p0, p1⟩, _⟩ := itemOk_b (itemsOk_at hok hn hu rfl)
  have := dem_b (flg xs a u) b0 b1 p0 p1
  unfold costV
  split <;> omega
theorem lc_some {n : Nat} {c : Int} (hok : itemsOk xs = true) (hn : xs.length = n) (d0 : 1 ≤ d) (d1 : d ≤ 10000) (h : lc xs d tol f t = some c) : f < t ∧ -1 ≤ f ∧ t < (n : Int) ∧ -200000000 ≤ c ∧ c ≤ 200000000 := by
  rcases hl : lnOk xs f t with _ | _
  · rw [lc_line hl] at h; cases h
  · obtain ⟨a, u, hf, ht, h1, h2, _⟩ := ln_iff hn hl
    rw [lc_at hf ht hl] at h
    split at h
    · injection h with h
      have := costV_b (a := a) (tol := tol) hok hn h2 d0 d1
      omega
    · cases h
theorem sumJ_no1 (hs : sumJ xs wd tol bs j = some s) (h : lc xs (wd j) tol (frm bs j) (bs.getD j default) = none) : sumJ xs wd tol bs (j + 1) = none := by rw [sumJ, hs]; simp only [h]
theorem sumJ_yes {c : Int} (hs : sumJ xs wd tol bs j = some s) (h : lc xs (wd j) tol (frm bs j) (bs.getD j default) = some c) : sumJ xs wd tol bs (j + 1) = some (s + c) := by rw [sumJ, hs]; simp only [h]
theorem sumJ_stop (h : sumJ xs wd tol bs j = none) (i : Nat) : sumJ xs wd tol bs (j + i) = none := by
  induction i with
  | zero => exact h
  | succ i ih => rw [← Nat.add_assoc, sumJ, ih]
theorem chk_none {n : Nat} (hn : bs.length = n) (h : sumJ xs wd tol bs (j + 1) = none) (hj : j < n) : chkP xs wd tol bs = none := by
  have := sumJ_stop h (n - (j + 1))
  rw [show j + 1 + (n - (j + 1)) = n by omega] at this
  rw [chkP, hn, this]
  split
  · rfl
  · split <;> rfl
theorem chk_zero (hn : bs.length = 0) : chkP xs wd tol bs = none := by rw [chkP, if_pos hn]
theorem chk_last {n : Nat} (hn : bs.length = n + 1) (h : ¬ bs.getD n default = (xs.length : Int) - 1) : chkP xs wd tol bs = none := by
  rw [chkP, if_neg (by omega), hn, frm_succ, if_neg h]
theorem chk_end {n : Nat} (hn : bs.length = n + 1) (h : bs.getD n default = (xs.length : Int) - 1) : chkP xs wd tol bs = sumJ xs wd tol bs (n + 1) := by
  rw [chkP, if_neg (by omega), hn, frm_succ, if_pos h]
theorem sumJ_b {n : Nat} (hok : itemsOk xs = true) (hn : xs.length = n) (hwd : ∀ k, 1 ≤ wd k ∧ wd k ≤ 10000) : ∀ (j : Nat) (s : Int), sumJ xs wd tol bs j = some s → (j : Int) ≤ frm bs j + 1 ∧ frm bs j < (n : Int) ∧ -200000000 * (j : Int) ≤ s ∧ s ≤ 200000000 * (j : Int) := by
  intro j
  induction j with
  | zero => intro s h; rw [sumJ] at h; cases h; have := (itemsOk_len hok hn).1; simp [frm]; omega
  | succ j ih =>
    intro s h
    rcases hs : sumJ xs wd tol bs j with _ | s'
    · rw [sumJ, hs] at h; cases h
    · obtain ⟨h1, h2, h3, h4⟩ := ih s' hs
      rcases hc : lc xs (wd j) tol (frm bs j) (bs.getD j default) with _ | c
      · rw [sumJ_no1 hs hc] at h; cases h
      · rw [sumJ_yes hs hc] at h
        cases h
        obtain ⟨k1, k2, k3, k4, k5⟩ := lc_some hok hn (hwd j).1 (hwd j).2 hc
        rw [frm_succ]
        omega
end
end Go.Proofs.Ytkmipgekmbngcaa
