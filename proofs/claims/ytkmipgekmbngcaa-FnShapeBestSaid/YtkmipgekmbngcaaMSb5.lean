/- What a call leaves that returns numbers of its own. No condition. -/
import Derived.Test.YtkmipgekmbngcaaInts
import Derived.Test.YtkmipgekmbngcaaMSb1
import Derived.Test.YtkmipgekmbngcaaReader
import Derived.Test.YtkmipgekmbngcaaDp
import Derived.Test.YtkmipgekmbngcaaMSb2
namespace Go.Proofs.Ytkmipgekmbngcaa
open Go.RowKit

/-- What a call leaves that returns numbers of its own. -/
def IntsOut (w : World) (xs : List Int) (e : Ending) (w' : World) : Prop :=
  ∃ (A : Option Addr) (c : Nat), e = .returned (.slice A xs.length c) ∧ OwnI w' w.heap.size A xs.length c xs ∧ Below w.heap.size w w'
theorem ownI_none (w : World) (base : Nat) : OwnI w base none 0 0 [] := ⟨rfl, .inl ⟨rfl, rfl⟩⟩
theorem ownI_c {w : World} {base n c : Nat} {A : Option Addr} {xs : List Int} (h : OwnI w base A n c xs) : c ≤ maxLen := by
  rcases h.2 with ⟨hv, _⟩ | ⟨g', cap, cur, hv, _, _, hnc, hcm, _⟩
  · cases hv; exact Nat.zero_le _
  · cases hv; exact hcm
theorem ints_of {w : World} {ys zs : List Int} (h : zs = ys) {n c : Nat} {A : Option Addr} (hl : ys.length = n) {w' : World} (ho : OwnI w' w.heap.size A n c ys) (hb : Below w.heap.size w w') : IntsOut w zs (.returned (.slice A n c)) w' := by
  subst h
  refine ⟨A, c, by rw [hl], ?_, hb⟩
  rw [hl]
  exact ho
end Go.Proofs.Ytkmipgekmbngcaa
/- equalInts of the laws returns what the plain function says. Conditions: the slices read as lists. -/
namespace Go.Proofs.Ytkmipgekmbngcaa
open Go.RowKit

theorem equalInts_same (A A' : Option Addr) (n cap cap' : Nat) (xs : List Int) (w : World) (hm : n ≤ maxLen) (hr : Row w w.heap.size 1 A n (inc xs)) (hr' : Row w w.heap.size 1 A' n (inc xs)) :
    Calls Try.prog 13 #[.slice A n cap, .slice A' n cap'] w fun e w' => e = .returned (.bool true) ∧ Below w.heap.size w w' := by
  unfold maxLen at hm
  go_enter Try.func13, Try.ntmps13
  go_wp2_with fail
  go_loopg [5] n (fun k i wr => ∃ j : Nat, j ≤ n ∧ k = n - j ∧ i = .int .i64 j ∧ Below w.heap.size w wr)
  case atStart => exact ⟨0, Nat.zero_le _, rfl, rfl, Below.refl _ _⟩
  case round =>
    obtain ⟨j, hj, hk, rfl, hbel⟩ := hrel
    have HK := Lib.hid hk; clear hk
    have hsz := hbel.size
    by_cases hlt : j < n
    · obtain ⟨b', off', rfl, hb', hc'⟩ := hr'.at1 (by omega)
      have d0 : wr.cell? ⟨b', off' + j, none⟩ = _ := (hbel.cell (p := ⟨b', off' + j, none⟩) hb').trans (hc' j hlt)
      obtain ⟨b, off, rfl, hb, hc⟩ := hr.at1 (by omega)
      have c0 : wr.cell? ⟨b, off + j, none⟩ = _ := (hbel.cell (p := ⟨b, off + j, none⟩) hb).trans (hc j hlt)
      obtain ⟨x, hx⟩ : ∃ x, xs.getD j default = x := ⟨_, rfl⟩
      simp only [inc, hx] at c0 d0
      clear hc hc' hx
      have hlt' : (j : Int) < (n : Int) := by omega
      go_wp2_with fail
      go_region
      all_goals
        go_wp2_with fail
        go_roundg (n - (j + 1))
        case measure => have := HK.out; omega
        case rel => exact ⟨j + 1, by omega, rfl, by go_num, by (repeat' (first | (with_reducible exact Below.refl _ _) | (with_reducible assumption) | (with_reducible refine Below.alloc ?_ ?_ _) | (with_reducible refine Below.drew ?_) | (with_reducible refine below_drewN ?_ _) | (with_reducible refine Below.setCell ?_ ?_ _) | (with_reducible refine below_then ?_ ?_ (by with_reducible assumption)) | (with_reducible exact Nat.le_refl _) | go_size | (simp only [*]; done)))⟩
    · go_wp2_with fail
      go_ret
      exact ⟨rfl, hbel⟩
end Go.Proofs.Ytkmipgekmbngcaa
/- What the generators of numbers leave; small functions of the laws on slices of numbers: isIn, last, equalInts. Conditions: the slices read as lists. -/
namespace Go.Proofs.Ytkmipgekmbngcaa
open Go.RowKit

/-- What a call leaves that draws a slice of at most M numbers in lo..hi, by at most K numbers of the reader. -/
def DrawnInts (w : World) (rb p K M : Nat) (lo hi : Int) (e : Ending) (w' : World) : Prop :=
  ∃ (A : Option Addr) (n c : Nat) (xs : List Int) (p' : Nat), e = .returned (.slice A n c) ∧ xs.length = n ∧ n ≤ M ∧ (∀ x ∈ xs, lo ≤ x ∧ x ≤ hi) ∧ Row w' w'.heap.size 1 A n (inc xs) ∧ (∀ x, A = some x → rb < x.block) ∧ p' ≤ p + K ∧ Rd w' rb p' ∧ w.grownBy w' (some rb)

/-- What a call leaves that draws a number in lo..hi. -/
def DrawnInt (w : World) (rb p K : Nat) (lo hi : Int) (e : Ending) (w' : World) : Prop :=
  ∃ (x : Int) (p' : Nat), e = .returned (.int .i64 x) ∧ lo ≤ x ∧ x ≤ hi ∧ p' ≤ p + K ∧ Rd w' rb p' ∧ w.grownBy w' (some rb)

theorem mem_set {xs : List Int} {lo hi v : Int} {i : Nat} (h : ∀ x ∈ xs, lo ≤ x ∧ x ≤ hi) (hv : lo ≤ v ∧ v ≤ hi) : ∀ x ∈ xs.set i v, lo ≤ x ∧ x ≤ hi := by
  intro x hx
  rcases List.mem_or_eq_of_mem_set hx with h1 | h1
  · exact h x h1
  · subst h1; exact hv
theorem mem_snoc {xs : List Int} {lo hi v : Int} (h : ∀ x ∈ xs, lo ≤ x ∧ x ≤ hi) (hv : lo ≤ v ∧ v ≤ hi) : ∀ x ∈ xs ++ [v], lo ≤ x ∧ x ≤ hi := by
  intro x hx
  rcases List.mem_append.1 hx with h1 | h1
  · exact h x h1
  · obtain rfl := List.mem_singleton.1 h1
    exact hv
theorem own_nil (w : World) (base g : Nat) (h : Blk w g 3 #[]) (hg : base ≤ g) : OwnI w base (some ⟨g, 0, none⟩) 0 0 [] :=
  owns_nil w base 3 1 0 g _ h hg (Nat.zero_le _) rfl
end Go.Proofs.Ytkmipgekmbngcaa
/- The table of cheapest ways while it is filled: the states when some stops and some candidates are done. No program but for what a call leaves. No condition. -/
namespace Go.Proofs.Ytkmipgekmbngcaa
open Go.RowKit

/-- The states when stops below i are done and m candidates of stop i. -/
def stt (c : Nat → Nat → Option Int) (i m k : Nat) : Option (Int × Nat) := if k < i then Dp.tbl c k else if k = i then Dp.best (Dp.tbl c) (fun k => c k i) m else none
theorem stt_lt {c : Nat → Nat → Option Int} {i m k : Nat} (h : k < i) : stt c i m k = Dp.tbl c k := if_pos h
theorem stt_at (c : Nat → Nat → Option Int) (i m : Nat) : stt c i m i = Dp.best (Dp.tbl c) (fun k => c k i) m := by rw [stt, if_neg (by omega), if_pos rfl]
theorem stt_next {c : Nat → Nat → Option Int} {i : Nat} (hi : 0 < i) : stt c i i = stt c (i + 1) 0 := by
  funext k
  unfold stt
  by_cases h1 : k < i
  · rw [if_pos h1, if_pos (by omega)]
  · by_cases h2 : k = i
    · subst h2
      rw [if_neg (by omega), if_pos rfl, if_pos (by omega), Dp.tbl_pos c k hi]
    · rw [if_neg h1, if_neg h2, if_neg (by omega)]
      by_cases h3 : k = i + 1
      · rw [if_pos h3, Dp.best_zero]
      · rw [if_neg h3]
theorem stt_first (c : Nat → Nat → Option Int) : stt c 1 0 = fun k => if k = 0 then some (0, 0) else none := by
  funext k
  unfold stt
  by_cases h1 : k = 0
  · subst h1; rw [if_pos (by omega), if_pos rfl, Dp.tbl_zero]
  · rw [if_neg (by omega), if_neg h1]
    by_cases h3 : k = 1
    · rw [if_pos h3, Dp.best_zero]
    · rw [if_neg h3]
theorem stt_skip {c : Nat → Nat → Option Int} {i m : Nat} (h : Dp.upd (Dp.tbl c) (fun k => c k i) (Dp.best (Dp.tbl c) (fun k => c k i) m) m = Dp.best (Dp.tbl c) (fun k => c k i) m) : stt c i (m + 1) = stt c i m := by
  funext k
  unfold stt
  rw [Dp.best_succ, h]
theorem stt_set {c : Nat → Nat → Option Int} {i m : Nat} {p : Int × Nat} (h : Dp.upd (Dp.tbl c) (fun k => c k i) (Dp.best (Dp.tbl c) (fun k => c k i) m) m = some p) (k : Nat) : stt c i (m + 1) k = if k = i then some p else stt c i m k := by
  unfold stt
  rw [Dp.best_succ, h]
  by_cases e : k = i
  · subst e; rw [if_neg (by omega), if_pos rfl, if_pos rfl]
  · rw [if_neg e, if_neg e, if_neg e]

section
variable {t : Nat → Option (Int × Nat)} {c : Nat → Option Int} {cur : Option (Int × Nat)} {k q2 b2 : Nat} {q1 s b1 : Int}
theorem upd_c (ht : t k = some (q1, q2)) (hc : c k = none) : Dp.upd t c cur k = cur := by unfold Dp.upd; rw [ht, hc]
theorem upd_first (ht : t k = some (q1, q2)) (hc : c k = some s) : Dp.upd t c none k = some (q1 + s, k) := by unfold Dp.upd; rw [ht, hc]
theorem upd_less (ht : t k = some (q1, q2)) (hc : c k = some s) (h : q1 + s < b1) : Dp.upd t c (some (b1, b2)) k = some (q1 + s, k) := by unfold Dp.upd; rw [ht, hc]; simp only; rw [if_pos h]
theorem upd_keep (ht : t k = some (q1, q2)) (hc : c k = some s) (h : ¬ q1 + s < b1) : Dp.upd t c (some (b1, b2)) k = some (b1, b2) := by unfold Dp.upd; rw [ht, hc]; simp only; rw [if_neg h]
end

def pathV (c : Nat → Nat → Option Int) (ss : List Int) (n : Nat) : List Int × Int × Bool := match Dp.tbl c n with
  | none => ([], 0, false)
  | some (v, _) => ((Dp.path c n).map (fun i => ss.getD i default), v, true)
theorem pathV_none {c : Nat → Nat → Option Int} {ss : List Int} {n : Nat} (h : Dp.tbl c n = none) : pathV c ss n = ([], 0, false) := by rw [pathV, h]
theorem pathV_some {c : Nat → Nat → Option Int} {ss : List Int} {n : Nat} {v : Int} {k : Nat} (h : Dp.tbl c n = some (v, k)) : pathV c ss n = ((Dp.path c n).map (fun i => ss.getD i default), v, true) := by rw [pathV, h]
/-- What a call leaves that returns numbers of its own, a number and a bool. -/
def PathOut (w : World) (r : List Int × Int × Bool) (e : Ending) (w' : World) : Prop :=
  ∃ (A : Option Addr) (c : Nat), e = .returned (.tuple #[.slice A r.1.length c, .int .i64 r.2.1, .bool r.2.2]) ∧ OwnI w' w.heap.size A r.1.length c r.1 ∧ Below w.heap.size w w'
end Go.Proofs.Ytkmipgekmbngcaa
