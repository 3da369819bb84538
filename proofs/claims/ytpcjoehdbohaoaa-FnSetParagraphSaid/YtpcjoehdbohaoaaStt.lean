/- The table of cheapest ways while it is filled: the states when some stops and some candidates are done. No program but for what a call leaves. No condition. -/
import Derived.Test.YtpcjoehdbohaoaaDp
import Derived.Test.YtpcjoehdbohaoaaOwnP
import Derived.Test.YtpcjoehdbohaoaaInts
namespace Go.Proofs.Ytpcjoehdbohaoaa
open Go.RowKit

/-- The states when stops below i are done and m candidates of stop i. -/
def stt (c : Nat → Nat → Option Int) (i m k : Nat) : Option (Int × Nat) := if k < i then Dp.tbl c k else if k = i then Dp.best (Dp.tbl c) (fun k => c k i) m else none
theorem stt_lt {c : Nat → Nat → Option Int} {i m k : Nat} (h : k < i) : stt c i m k = Dp.tbl c k := if_pos h
theorem stt_at (c : Nat → Nat → Option Int) (i m : Nat) : stt c i m i = Dp.best (Dp.tbl c) (fun k => c k i) m := by rw [stt, if_neg (by omega), if_pos rfl]
theorem stt_next {c : Nat → Nat → Option Int} {i : Nat} (hi : 0 < i) : stt c i i = stt c (i + 1) 0 := by
  funext k
  unfold stt
  by_cases h1 : k < i
  · rw [if_pos h1, if_pos (by omega)]
  · by_cases h2 : k = i
    · subst h2
      rw [if_neg (by omega), if_pos rfl, if_pos (by omega), Dp.tbl_pos c k hi]
    · rw [if_neg h1, if_neg h2, if_neg (by omega)]
      by_cases h3 : k = i + 1
      · rw [if_pos h3, Dp.best_zero]
      · rw [if_neg h3]
theorem stt_first (c : Nat → Nat → Option Int) : stt c 1 0 = fun k => if k = 0 then some (0, 0) else none := by
  funext k
  unfold stt
  by_cases h1 : k = 0
  · subst h1; rw [if_pos (by omega), if_pos rfl, Dp.tbl_zero]
  · rw [if_neg (by omega), if_neg h1]
    by_cases h3 : k = 1
    · rw [if_pos h3, Dp.best_zero]
    · rw [if_neg h3]
theorem stt_skip {c : Nat → Nat → Option Int} {i m : Nat} (h : Dp.upd (Dp.tbl c) (fun k => c k i) (Dp.best (Dp.tbl c) (fun k => c k i) m) m = Dp.best (Dp.tbl c) (fun k => c k i) m) : stt c i (m + 1) = stt c i m := by
  funext k
  unfold stt
  rw [Dp.best_succ, h]
theorem stt_set {c : Nat → Nat → Option Int} {i m : Nat} {p : Int × Nat} (h : Dp.upd (Dp.tbl c) (fun k => c k i) (Dp.best (Dp.tbl c) (fun k => c k i) m) m = some p) (k : Nat) : stt c i (m + 1) k = if k = i then some p else stt c i m k := by
  unfold stt
  rw [Dp.best_succ, h]
  by_cases e : k = i
  · subst e; rw [if_neg (by omega), if_pos rfl, if_pos rfl]
  · rw [if_neg e, if_neg e, if_neg e]

section
variable {t : Nat → Option (Int × Nat)} {c : Nat → Option Int} {cur : Option (Int × Nat)} {k q2 b2 : Nat} {q1 s b1 : Int}
theorem upd_c (ht : t k = some (q1, q2)) (hc : c k = none) : Dp.upd t c cur k = cur := by unfold Dp.upd; rw [ht, hc]
theorem upd_first (ht : t k = some (q1, q2)) (hc : c k = some s) : Dp.upd t c none k = some (q1 + s, k) := by unfold Dp.upd; rw [ht, hc]
theorem upd_less (ht : t k = some (q1, q2)) (hc : c k = some s) (h : q1 + s < b1) : Dp.upd t c (some (b1, b2)) k = some (q1 + s, k) := by unfold Dp.upd; rw [ht, hc]; simp only; rw [if_pos h]
theorem upd_keep (ht : t k = some (q1, q2)) (hc : c k = some s) (h : ¬ q1 + s < b1) : Dp.upd t c (some (b1, b2)) k = some (b1, b2) := by unfold Dp.upd; rw [ht, hc]; simp only; rw [if_neg h]
end

def pathV (c : Nat → Nat → Option Int) (ss : List Int) (n : Nat) : List Int × Int × Bool := match Dp.tbl c n with
  | none => ([], 0, false)
  | some (v, _) => ((Dp.path c n).map (fun i => ss.getD i default), v, true)
theorem pathV_none {c : Nat → Nat → Option Int} {ss : List Int} {n : Nat} (h : Dp.tbl c n = none) : pathV c ss n = ([], 0, false) := by rw [pathV, h]
theorem pathV_some {c : Nat → Nat → Option Int} {ss : List Int} {n : Nat} {v : Int} {k : Nat} (h : Dp.tbl c n = some (v, k)) : pathV c ss n = ((Dp.path c n).map (fun i => ss.getD i default), v, true) := by rw [pathV, h]
/-- What a call leaves that returns numbers of its own, a number and a bool. -/
def PathOut (w : World) (r : List Int × Int × Bool) (e : Ending) (w' : World) : Prop :=
  ∃ (A : Option Addr) (c : Nat), e = .returned (.tuple #[.slice A r.1.length c, .int .i64 r.2.1, .bool r.2.2]) ∧ OwnI w' w.heap.size A r.1.length c r.1 ∧ Below w.heap.size w w'
end Go.Proofs.Ytpcjoehdbohaoaa
