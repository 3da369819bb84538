/- Slices of numbers: the copies, comparisons and marks of the exact laws. Conditions: the slices read as lists; at most 2^20 numbers where a row is made. -/
import Derived.Test.YtkmipgekmbngcaaMShB
namespace Go.Proofs.Ytkmipgekmbngcaa
open Go.RowKit

/-- The cells of a list of numbers. -/
def inc (xs : List Int) (i _ : Nat) : Value := .int .i64 (xs.getD i default)
def inl (xs : List Int) : List Value := xs.map (Value.int .i64)
theorem inl_len (xs : List Int) : (inl xs).length = xs.length := by simp [inl]
theorem inl_snoc (xs : List Int) (x : Int) : inl (xs ++ [x]) = inl xs ++ [.int .i64 x] := by simp [inl]
theorem inl_at (xs : List Int) : ∀ i q, i < xs.length → q < 1 → (inl xs)[i * 1 + q]? = some (inc xs i q) := by
  intro i q hi hq
  obtain rfl : q = 0 := by omega
  simp [inl, inc, List.getD_eq_getElem?_getD, hi]
theorem inl_one (xs : List Int) : ∀ u ∈ inl xs, u.oneCell' = true := by
  intro u hu
  simp only [inl, List.mem_map] at hu
  obtain ⟨a, _, rfl⟩ := hu
  rfl
/-- What the call owns and has filled with numbers. -/
def OwnI (w : World) (base : Nat) (A : Option Addr) (n c : Nat) (xs : List Int) : Prop := w.ownsRow base 3 1 (.slice A n c) n (inl xs)
theorem OwnI.len {w : World} {base : Nat} {A : Option Addr} {n c : Nat} {xs : List Int} (h : OwnI w base A n c xs) : xs.length = n := by
  have := h.1
  rw [inl_len] at this
  omega
theorem OwnI.row {w : World} {base : Nat} {A : Option Addr} {n c : Nat} {xs : List Int} (h : OwnI w base A n c xs) : Row w w.heap.size 1 A n (inc xs) :=
  Row.owned h fun i q hi hq => inl_at xs i q (by rw [h.len]; exact hi) hq
theorem OwnI.then_ {w w' : World} {base : Nat} {A : Option Addr} {n c : Nat} {xs : List Int} (h : OwnI w base A n c xs) (hb : Below w.heap.size w w') : OwnI w' base A n c xs :=
  h.kept (row := none) ⟨hb.os, hb.tape, hb.output, hb.size, fun k hk _ => hb.block k hk⟩ (by cases hv : Value.ownBlock (.slice A n c) <;> simp)
theorem OwnI.drew {w : World} {base : Nat} {A : Option Addr} {n c : Nat} {xs : List Int} (h : OwnI w base A n c xs) : OwnI w.drew base A n c xs := h
theorem OwnI.drewN {w : World} {base : Nat} {A : Option Addr} {n c : Nat} {xs : List Int} (h : OwnI w base A n c xs) (k : Nat) : OwnI (w.drewN k) base A n c xs := h
theorem OwnI.alloc {w : World} {base : Nat} {A : Option Addr} {n c : Nat} {xs : List Int} (h : OwnI w base A n c xs) (o : Obj) : OwnI (w.alloc o) base A n c xs := World.ownsRow.alloc h o
theorem OwnI.eq {w : World} {base : Nat} {A : Option Addr} {n c : Nat} {xs ys : List Int} (h : OwnI w base A n c xs) (e : xs = ys) : OwnI w base A n c ys := e ▸ h
theorem OwnI.mono {w : World} {base base' : Nat} {A : Option Addr} {n c : Nat} {xs : List Int} (h : OwnI w base A n c xs) (hb : base' ≤ base) : OwnI w base' A n c xs :=
  ⟨h.1, h.2.imp id fun ⟨g, cap, cur, h1, h2, h3⟩ => ⟨g, cap, cur, h1, by omega, h3⟩⟩
theorem own_form {w : World} {base sz n : Nat} {e : TypeId} {v : Value} {L : List Value} (h : w.ownsRow base e sz v n L) : ∃ (A : Option Addr) (c : Nat), v = .slice A n c := by
  rcases h.2 with ⟨rfl, rfl⟩ | ⟨g, cap, cur, rfl, _⟩
  · exact ⟨none, 0, rfl⟩
  · exact ⟨some ⟨g, 0, none⟩, cap, rfl⟩
theorem OwnI.blk {w : World} {base : Nat} {A : Option Addr} {n c : Nat} {xs : List Int} (h : OwnI w base A n c xs) : ∀ x, A = some x → base ≤ x.block ∧ x.block < w.heap.size := by
  intro x hx
  subst hx
  exact h.lt x.block rfl
theorem OwnI.block {w : World} {base : Nat} {A : Option Addr} {n c : Nat} {xs : List Int} (h : OwnI w base A n c xs) : ∀ k, Value.ownBlock (.slice A n c) = some k → base ≤ k ∧ k < w.heap.size := World.ownsRow.lt h
/-- Two slices in different blocks. -/
theorem OwnI.apart {w w' : World} {base : Nat} {A B : Option Addr} {n c m d : Nat} {xs : List Int} (h : OwnI w base A n c xs) (hg : w.grownBy w' (Value.ownBlock (.slice B m d))) (hb : ∀ x, A = some x → ∀ y, B = some y → x.block ≠ y.block) : OwnI w' base A n c xs := by
  refine h.kept hg ?_
  cases A with
  | none => exact .inl rfl
  | some x =>
    cases B with
    | none => exact .inr (by simp [Value.ownBlock])
    | some y => exact .inr (by have := hb x rfl y rfl; simpa [Value.ownBlock] using this)

theorem OwnI.other {w : World} {base : Nat} {A : Option Addr} {n c : Nat} {xs : List Int} (h : OwnI w base A n c xs) {a : Addr} (hne : ∀ y, A = some y → y.block ≠ a.block) (u : Value) : OwnI (w.setCell a u) base A n c xs := by
  refine h.kept (row := some a.block) ⟨rfl, rfl, rfl, by simp [World.setCell], fun k _ hk => Below.heap_setCell w a u k (fun e => hk (by rw [e]))⟩ ?_
  cases A with
  | none => exact .inl rfl
  | some y => exact .inr (by have := hne y rfl; simpa [Value.ownBlock] using this)

theorem int_info : (Try.prog.info? 3).map (fun i => (i.zero, i.size, i.bytes)) = some (some (.int .i64 0), 1, 8) := by kernel_rfl

/-- A row that is being filled. -/
def fillI (xs : List Int) (j n : Nat) : List Int := xs.take j ++ List.replicate (n - j) 0
theorem fillI_zero (xs : List Int) (n : Nat) : fillI xs 0 n = List.replicate n 0 := by simp [fillI]
theorem fillI_full (xs : List Int) (n : Nat) (h : xs.length = n) : fillI xs n n = xs := by simp [fillI, ← h]
theorem fillI_len {xs : List Int} {n j : Nat} (h : xs.length = n) (hj : j ≤ n) : (fillI xs j n).length = n := by simp [fillI, h]; omega
theorem fillI_set {xs : List Int} {n j : Nat} {x : Int} (h : xs.length = n) (hj : j < n) (hx : xs.getD j default = x) : (fillI xs j n).set j x = fillI xs (j + 1) n := by
  apply List.ext_getElem?
  intro i
  have hl : (xs.take j).length = j := by simp; omega
  rw [List.getElem?_set]
  unfold fillI
  rw [List.length_append, hl, List.length_replicate]
  by_cases e : j = i
  · subst e
    rw [if_pos rfl, if_pos (by omega), List.getElem?_append_left (by simp; omega), List.getElem?_take_of_lt (by omega)]
    rw [← hx, List.getD_eq_getElem?_getD, List.getElem?_eq_getElem (by omega)]
    rfl
  · rw [if_neg e]
    rcases Nat.lt_or_ge i j with hi | hi
    · rw [List.getElem?_append_left (by omega), List.getElem?_append_left (by simp; omega), List.getElem?_take_of_lt hi, List.getElem?_take_of_lt (by omega)]
    · rw [List.getElem?_append_right (by omega), List.getElem?_append_right (by simp; omega), hl]
      have hl' : (xs.take (j + 1)).length = j + 1 := by simp; omega
      rw [hl', List.getElem?_replicate, List.getElem?_replicate]
      by_cases h2 : i < n
      · rw [if_pos (by omega), if_pos (by omega)]
      · rw [if_neg (by omega), if_neg (by omega)]
theorem inl_set (xs : List Int) (j : Nat) (x : Int) : (inl xs).set j (.int .i64 x) = inl (xs.set j x) := by simp [inl, List.map_set]
theorem OwnI.stored {w : World} {base g n c j : Nat} {xs : List Int} (h : OwnI w base (some ⟨g, 0, none⟩) n c xs) (x : Int) : OwnI (w.setCell ⟨g, j, none⟩ (.int .i64 x)) base (some ⟨g, 0, none⟩) n c (xs.set j x) := by
  have := (World.ownsRow.stored h j (.int .i64 x)).1
  rwa [inl_set] at this
theorem OwnI.cellI {w : World} {base g n c j : Nat} {xs : List Int} (h : OwnI w base (some ⟨g, 0, none⟩) n c xs) (hj : j < n) : w.cell? ⟨g, j, none⟩ = some (.int .i64 (xs.getD j default)) := by
  have := World.ownsRow.cellAt h j (by omega)
  rw [this]
  have hl := h.len
  simp [inl, List.getD_eq_getElem?_getD, hl, hj]
theorem made_own (w : World) (z : Value) (n : Nat) (hn : n ≤ maxLen) (t : TypeId) (hz : z.cells = #[z]) : (w.alloc (.cells (madeCells z.cells (n * 1)) t)).ownsRow w.heap.size t 1 (.slice (some ⟨w.heap.size, 0, none⟩) n n) n (List.replicate n z) := by
  refine ⟨by simp, .inr ⟨w.heap.size, n, _, rfl, Nat.le_refl _, heap_alloc_new w _, Nat.le_refl _, hn, by simp [madeCells], ?_⟩⟩
  apply List.ext_getElem?
  intro i
  rw [hz]
  simp only [madeCells, Nat.mul_one]
  rw [List.getElem?_take, List.getElem?_replicate]
  by_cases h : i < n
  · rw [if_pos h, if_pos h]
    simp [h, Nat.mod_one]
  · rw [if_neg h, if_neg h]

theorem toIntS_any (A : Option Addr) (n cap : Nat) (xs : List Int) (w : World) (hn : xs.length = n) (hm : n ≤ 1048576) (hr : Row w w.heap.size 1 A n (inc xs)) :
    Calls Try.prog 26 #[.slice A n cap] w fun e w' => e = .returned (.slice (some ⟨w.heap.size, 0, none⟩) n n) ∧ OwnI w' w.heap.size (some ⟨w.heap.size, 0, none⟩) n n xs ∧ Below w.heap.size w w' := by
  obtain ⟨i0, hi, hz0, hz1, hz2⟩ := info_parts int_info
  have hmk := make_n (P := Try.prog) 24 3 i0 _ Try.underlying24 hi hz0 n (by rw [hz2]; omega) (by omega)
  rw [hz1] at hmk
  have HN := Lib.hid hn; clear hn
  go_enter Try.func26, Try.ntmps26
  go_wp2_with fail
  go_loopg [4] n (fun k i wr => ∃ j : Nat, j ≤ n ∧ k = n - j ∧ i = .int .i64 j ∧ Hid (OwnI wr w.heap.size (some ⟨w.heap.size, 0, none⟩) n n (fillI xs j n)) ∧ Below w.heap.size w wr)
  case atStart => exact ⟨0, Nat.zero_le _, rfl, rfl, by rw [fillI_zero]; have := made_own w (.int .i64 0) n (by unfold maxLen; omega) 3 rfl; simpa [OwnI, inl, Hid, Value.cells] using this, by (repeat' (first | (with_reducible exact Below.refl _ _) | (with_reducible assumption) | (with_reducible refine Below.alloc ?_ ?_ _) | (with_reducible refine Below.drew ?_) | (with_reducible refine below_drewN ?_ _) | (with_reducible refine Below.setCell ?_ ?_ _) | (with_reducible refine below_then ?_ ?_ (by with_reducible assumption)) | (with_reducible exact Nat.le_refl _) | go_size | (simp only [*]; done)))⟩
  case round =>
    obtain ⟨j, hj, hk, rfl, hown, hbel⟩ := hrel
    have HK := Lib.hid hk; clear hk
    have hsz := hbel.size
    have olt := (hown.out.lt w.heap.size rfl).2
    by_cases hlt : j < n
    · obtain ⟨b, off, rfl, hb, hc⟩ := hr.at1 (by omega)
      have c0 : wr.cell? ⟨b, off + j, none⟩ = _ := (hbel.cell (p := ⟨b, off + j, none⟩) hb).trans (hc j hlt)
      obtain ⟨x, hx⟩ : ∃ x, xs.getD j default = x := ⟨_, rfl⟩
      simp only [inc, hx] at c0
      have Hx := Lib.hid hx; clear hx hc
      have o0 := hown.out.cellI hlt
      have of0 := hown.out.frozenAt j
      go_wp2_with fail
      go_roundg (n - (j + 1))
      case measure => have := HK.out; omega
      case rel => exact ⟨j + 1, by omega, rfl, by go_num, (hown.out.stored x).eq (fillI_set HN.out hlt Hx.out), by (repeat' (first | (with_reducible exact Below.refl _ _) | (with_reducible assumption) | (with_reducible refine Below.alloc ?_ ?_ _) | (with_reducible refine Below.drew ?_) | (with_reducible refine below_drewN ?_ _) | (with_reducible refine Below.setCell ?_ ?_ _) | (with_reducible refine below_then ?_ ?_ (by with_reducible assumption)) | (with_reducible exact Nat.le_refl _) | go_size | (simp only [*]; done)))⟩
    · go_wp2_with fail
      go_ret
      have ej : j = n := by omega
      subst ej
      exact ⟨rfl, hown.out.eq (fillI_full xs j HN.out), by (repeat' (first | (with_reducible exact Below.refl _ _) | (with_reducible assumption) | (with_reducible refine Below.alloc ?_ ?_ _) | (with_reducible refine Below.drew ?_) | (with_reducible refine below_drewN ?_ _) | (with_reducible refine Below.setCell ?_ ?_ _) | (with_reducible refine below_then ?_ ?_ (by with_reducible assumption)) | (with_reducible exact Nat.le_refl _) | go_size | (simp only [*]; done)))⟩

theorem eqIntS_same (A A' : Option Addr) (n cap cap' : Nat) (xs : List Int) (w : World) (hm : n ≤ maxLen) (hr : Row w w.heap.size 1 A n (inc xs)) (hr' : Row w w.heap.size 1 A' n (inc xs)) :
    Calls Try.prog 28 #[.slice A n cap, .slice A' n cap'] w fun e w' => e = .returned (.bool true) ∧ Below w.heap.size w w' := by
  unfold maxLen at hm
  go_enter Try.func28, Try.ntmps28
  go_wp2_with fail
  go_loopg [5] n (fun k i wr => ∃ j : Nat, j ≤ n ∧ k = n - j ∧ i = .int .i64 j ∧ Below w.heap.size w wr)
  case atStart => exact ⟨0, Nat.zero_le _, rfl, rfl, Below.refl _ _⟩
  case round =>
    obtain ⟨j, hj, hk, rfl, hbel⟩ := hrel
    have HK := Lib.hid hk; clear hk
    have hsz := hbel.size
    by_cases hlt : j < n
    · obtain ⟨b', off', rfl, hb', hc'⟩ := hr'.at1 (by omega)
      have d0 : wr.cell? ⟨b', off' + j, none⟩ = _ := (hbel.cell (p := ⟨b', off' + j, none⟩) hb').trans (hc' j hlt)
      obtain ⟨b, off, rfl, hb, hc⟩ := hr.at1 (by omega)
      have c0 : wr.cell? ⟨b, off + j, none⟩ = _ := (hbel.cell (p := ⟨b, off + j, none⟩) hb).trans (hc j hlt)
      obtain ⟨x, hx⟩ : ∃ x, xs.getD j default = x := ⟨_, rfl⟩
      simp only [inc, hx] at c0 d0
      clear hc hc' hx
      have hlt' : (j : Int) < (n : Int) := by omega
      go_wp2_with fail
      go_region
      all_goals
        go_wp2_with fail
        go_roundg (n - (j + 1))
        case measure => have := HK.out; omega
        case rel => exact ⟨j + 1, by omega, rfl, by go_num, by (repeat' (first | (with_reducible exact Below.refl _ _) | (with_reducible assumption) | (with_reducible refine Below.alloc ?_ ?_ _) | (with_reducible refine Below.drew ?_) | (with_reducible refine below_drewN ?_ _) | (with_reducible refine Below.setCell ?_ ?_ _) | (with_reducible refine below_then ?_ ?_ (by with_reducible assumption)) | (with_reducible exact Nat.le_refl _) | go_size | (simp only [*]; done)))⟩
    · go_wp2_with fail
      go_ret
      exact ⟨rfl, hbel⟩

end Go.Proofs.Ytkmipgekmbngcaa
/- The table of cheapest ways while it is filled: the states when some stops and some candidates are done. No program but for what a call leaves. No condition. -/
namespace Go.Proofs.Ytkmipgekmbngcaa
open Go.RowKit

/-- The states when stops below i are done and m candidates of stop i. -/
def stt (c : Nat → Nat → Option Int) (i m k : Nat) : Option (Int × Nat) := if k < i then Dp.tbl c k else if k = i then Dp.best (Dp.tbl c) (fun k => c k i) m else none
theorem stt_lt {c : Nat → Nat → Option Int} {i m k : Nat} (h : k < i) : stt c i m k = Dp.tbl c k := if_pos h
theorem stt_at (c : Nat → Nat → Option Int) (i m : Nat) : stt c i m i = Dp.best (Dp.tbl c) (fun k => c k i) m := by rw [stt, if_neg (by omega), if_pos rfl]
theorem stt_next {c : Nat → Nat → Option Int} {i : Nat} (hi : 0 < i) : stt c i i = stt c (i + 1) 0 := by
  funext k
  unfold stt
  by_cases h1 : k < i
  · rw [if_pos h1, if_pos (by omega)]
  · by_cases h2 : k = i
    · subst h2
      rw [if_neg (by omega), if_pos rfl, if_pos (by omega), Dp.tbl_pos c k hi]
    · rw [if_neg h1, if_neg h2, if_neg (by omega)]
      by_cases h3 : k = i + 1
      · rw [if_pos h3, Dp.best_zero]
      · rw [if_neg h3]
theorem stt_first (c : Nat → Nat → Option Int) : stt c 1 0 = fun k => if k = 0 then some (0, 0) else none := by
  funext k
  unfold stt
  by_cases h1 : k = 0
  · subst h1; rw [if_pos (by omega), if_pos rfl, Dp.tbl_zero]
  · rw [if_neg (by omega), if_neg h1]
    by_cases h3 : k = 1
    · rw [if_pos h3, Dp.best_zero]
    · rw [if_neg h3]
theorem stt_skip {c : Nat → Nat → Option Int} {i m : Nat} (h : Dp.upd (Dp.tbl c) (fun k => c k i) (Dp.best (Dp.tbl c) (fun k => c k i) m) m = Dp.best (Dp.tbl c) (fun k => c k i) m) : stt c i (m + 1) = stt c i m := by
  funext k
  unfold stt
  rw [Dp.best_succ, h]
theorem stt_set {c : Nat → Nat → Option Int} {i m : Nat} {p : Int × Nat} (h : Dp.upd (Dp.tbl c) (fun k => c k i) (Dp.best (Dp.tbl c) (fun k => c k i) m) m = some p) (k : Nat) : stt c i (m + 1) k = if k = i then some p else stt c i m k := by
  unfold stt
  rw [Dp.best_succ, h]
  by_cases e : k = i
  · subst e; rw [if_neg (by omega), if_pos rfl, if_pos rfl]
  · rw [if_neg e, if_neg e, if_neg e]

section
variable {t : Nat → Option (Int × Nat)} {c : Nat → Option Int} {cur : Option (Int × Nat)} {k q2 b2 : Nat} {q1 s b1 : Int}
theorem upd_c (ht : t k = some (q1, q2)) (hc : c k = none) : Dp.upd t c cur k = cur := by unfold Dp.upd; rw [ht, hc]
theorem upd_first (ht : t k = some (q1, q2)) (hc : c k = some s) : Dp.upd t c none k = some (q1 + s, k) := by unfold Dp.upd; rw [ht, hc]
theorem upd_less (ht : t k = some (q1, q2)) (hc : c k = some s) (h : q1 + s < b1) : Dp.upd t c (some (b1, b2)) k = some (q1 + s, k) := by unfold Dp.upd; rw [ht, hc]; simp only; rw [if_pos h]
theorem upd_keep (ht : t k = some (q1, q2)) (hc : c k = some s) (h : ¬ q1 + s < b1) : Dp.upd t c (some (b1, b2)) k = some (b1, b2) := by unfold Dp.upd; rw [ht, hc]; simp only; rw [if_neg h]
end

def pathV (c : Nat → Nat → Option Int) (ss : List Int) (n : Nat) : List Int × Int × Bool := match Dp.tbl c n with
  | none => ([], 0, false)
  | some (v, _) => ((Dp.path c n).map (fun i => ss.getD i default), v, true)
theorem pathV_none {c : Nat → Nat → Option Int} {ss : List Int} {n : Nat} (h : Dp.tbl c n = none) : pathV c ss n = ([], 0, false) := by rw [pathV, h]
theorem pathV_some {c : Nat → Nat → Option Int} {ss : List Int} {n : Nat} {v : Int} {k : Nat} (h : Dp.tbl c n = some (v, k)) : pathV c ss n = ((Dp.path c n).map (fun i => ss.getD i default), v, true) := by rw [pathV, h]
/-- What a call leaves that returns numbers of its own, a number and a bool. -/
def PathOut (w : World) (r : List Int × Int × Bool) (e : Ending) (w' : World) : Prop :=
  ∃ (A : Option Addr) (c : Nat), e = .returned (.tuple #[.slice A r.1.length c, .int .i64 r.2.1, .bool r.2.2]) ∧ OwnI w' w.heap.size A r.1.length c r.1 ∧ Below w.heap.size w w'
end Go.Proofs.Ytkmipgekmbngcaa
/- The cheapest way over all nodes is the cheapest way over the nodes that can be reached. No program. No condition. -/
namespace Go.Proofs.Ytkmipgekmbngcaa.Dp

variable {C : Nat → Nat → Option Int} {p : Nat → Bool}
/-- How many stops lie ahead of node N. -/
def rk (p : Nat → Bool) (N : Nat) : Nat := ((List.range N).filter p).length
theorem rk_yes {N : Nat} (h : p N = true) : rk p (N + 1) = rk p N + 1 := by
  rw [rk, List.range_succ, List.filter_append, List.length_append]
  simp [rk, h]
theorem rk_no {N : Nat} (h : p N = false) : rk p (N + 1) = rk p N := by
  rw [rk, List.range_succ, List.filter_append, List.length_append]
  simp [rk, h]
/-- The stops among the first n nodes. -/
def sts (p : Nat → Bool) (n : Nat) : List Nat := (List.range n).filter p
theorem sts_at {n N : Nat} (h : p N = true) (hN : N < n) : (sts p n).getD (rk p N) 0 = N := by
  have e : List.range n = List.range N ++ N :: (List.range n).drop (N + 1) := by
    have h1 : (List.range n).take N = List.range N := by rw [List.take_range, Nat.min_eq_left (by omega)]
    have h2 : (List.range n).drop N = N :: (List.range n).drop (N + 1) := by
      rw [List.drop_eq_getElem_cons (by simp; omega), List.getElem_range]
    rw [← h1, ← h2, List.take_append_drop]
  rw [sts, e, List.filter_append, List.filter_cons_of_pos h, List.getD_eq_getElem?_getD, List.getElem?_append_right (by rw [rk]; exact Nat.le_refl _), rk, Nat.sub_self]
  rfl
def lift (L : Nat → Nat) (r : Option (Int × Nat)) : Option (Int × Nat) := r.map fun q => (q.1, L q.2)
theorem upd_lift {t T : Nat → Option (Int × Nat)} {s S : Nat → Option Int} {L : Nat → Nat} {k N : Nat} (hT : T N = lift L (t k)) (hS : S N = s k) (hL : L k = N) (cur : Option (Int × Nat)) : upd T S (lift L cur) N = lift L (upd t s cur k) := by
  unfold upd
  rw [hT, hS]
  rcases t k with _ | ⟨a, b⟩
  · rfl
  · rcases s k with _ | c
    · rfl
    · rcases cur with _ | ⟨v, q⟩
      · simp [lift, hL]
      · simp only [lift, Option.map_some]
        split <;> simp [hL]
theorem upd_skip {T : Nat → Option (Int × Nat)} {S : Nat → Option Int} {N : Nat} (h : T N = none ∨ S N = none) (cur : Option (Int × Nat)) : upd T S cur N = cur := by
  unfold upd
  rcases h with h | h
  · rw [h]
  · rw [h]
    rcases T N with _ | _ <;> rfl
theorem tbl_stops (n : Nat) (hC : ∀ k i, p k = false → C k i = none) (h0 : p 0 = true) : ∀ N, N < n → p N = true → tbl C N = lift (fun k => (sts p n).getD k 0) (tbl (fun k i => C ((sts p n).getD k 0) ((sts p n).getD i 0)) (rk p N)) := by
  intro N
  induction N using Nat.strongRecOn with
  | _ N ih =>
    intro hN hp
    have hself := sts_at hp hN
    rcases Nat.eq_zero_or_pos N with rfl | hpos
    · have e : rk p 0 = 0 := rfl
      rw [e] at hself ⊢
      rw [tbl_zero, tbl_zero, lift]
      simp only [Option.map_some, hself]
    · have hr : 0 < rk p N := by
        have key : ∀ m, 0 < m → 0 < rk p m := by
          intro m
          induction m with
          | zero => intro h; omega
          | succ m ihm =>
            intro _
            rcases Nat.eq_zero_or_pos m with rfl | hm
            · rw [rk_yes h0]; omega
            · have := ihm hm
              rcases hq : p m with _ | _
              · rw [rk_no hq]; exact this
              · rw [rk_yes hq]; omega
        exact key N hpos
      rw [tbl_pos _ _ hpos, tbl_pos _ _ hr]
      have key : ∀ M, M ≤ N → best (tbl C) (fun k => C k N) M = lift (fun k => (sts p n).getD k 0) (best (tbl (fun k i => C ((sts p n).getD k 0) ((sts p n).getD i 0))) (fun k => C ((sts p n).getD k 0) ((sts p n).getD (rk p N) 0)) (rk p M)) := by
        intro M
        induction M with
        | zero => intro _; rfl
        | succ M ihM =>
          intro hM
          rw [best_succ, ihM (by omega)]
          rcases hq : p M with _ | _
          · rw [rk_no hq]
            exact upd_skip (T := tbl C) (S := fun k => C k N) (N := M) (.inr (hC M N hq)) _
          · rw [rk_yes hq, best_succ]
            refine upd_lift (ih M (by omega) (by omega) hq) ?_ (sts_at hq (by omega)) _
            rw [sts_at hq (by omega), hself]
      exact key N (Nat.le_refl _)
theorem rk_mono {a b : Nat} (h : a ≤ b) : rk p a ≤ rk p b := by
  induction h with
  | refl => exact Nat.le_refl _
  | @step m _ ih =>
    rcases hq : p m with _ | _
    · rw [rk_no hq]; exact ih
    · rw [rk_yes hq]; omega
theorem rk_lt {a b : Nat} (ha : p a = true) (h : a < b) : rk p a < rk p b := by
  have := rk_mono (p := p) (show a + 1 ≤ b by omega)
  rw [rk_yes ha] at this
  omega
theorem rk_inj {a b : Nat} (ha : p a = true) (hb : p b = true) (h : rk p a = rk p b) : a = b := by
  rcases Nat.lt_trichotomy a b with h1 | h1 | h1
  · have := rk_lt ha h1; omega
  · exact h1
  · have := rk_lt hb h1; omega
/-- Each number below the number of stops is the rank of a stop. -/
theorem rk_surj {n k : Nat} (h : k < rk p n) : ∃ N, N < n ∧ p N = true ∧ rk p N = k := by
  induction n with
  | zero => exact absurd h (Nat.not_lt_zero _)
  | succ n ih =>
    rcases hq : p n with _ | _
    · rw [rk_no hq] at h
      obtain ⟨N, h1, h2, h3⟩ := ih h
      exact ⟨N, by omega, h2, h3⟩
    · rw [rk_yes hq] at h
      rcases Nat.lt_or_ge k (rk p n) with h1 | h1
      · obtain ⟨N, h2, h3, h4⟩ := ih h1
        exact ⟨N, by omega, h3, h4⟩
      · exact ⟨n, by omega, hq, by omega⟩
theorem path_stops (n : Nat) (hC : ∀ k i, p k = false → C k i = none) (h0 : p 0 = true) : ∀ N, N < n → p N = true → tbl C N ≠ none → path C N = (path (fun k i => C ((sts p n).getD k 0) ((sts p n).getD i 0)) (rk p N)).map (fun k => (sts p n).getD k 0) := by
  intro N
  induction N using Nat.strongRecOn with
  | _ N ih =>
    intro hN hp ht
    have hself := sts_at hp hN
    have htb := tbl_stops n hC h0 N hN hp
    rcases Nat.eq_zero_or_pos N with rfl | hpos
    · rw [show rk p 0 = 0 from rfl, path_zero, path_zero]
      rfl
    · rcases hs : tbl (fun k i => C ((sts p n).getD k 0) ((sts p n).getD i 0)) (rk p N) with _ | ⟨v, k⟩
      · rw [hs] at htb
        exact absurd htb ht
      · rw [hs] at htb
        have hr : 0 < rk p N := by
          have h1 := rk_lt h0 hpos
          omega
        obtain ⟨hk, u, k', s, h1, h2, _⟩ := tbl_some hr hs
        obtain ⟨K, hK1, hK2, hK3⟩ := rk_surj hk
        have hLK : (sts p n).getD k 0 = K := by rw [← hK3]; exact sts_at hK2 (by omega)
        have hcK : tbl C N = some (v, K) := by rw [htb, lift]; simp only [Option.map_some, hLK]
        have htK : tbl C K ≠ none := by
          rw [tbl_stops n hC h0 K (by omega) hK2, hK3, h1]
          intro e
          cases e
        rw [path_pos hpos hcK, path_pos hr hs, List.map_append, ih K hK1 (by omega) hK2 htK, hK3]
        simp only [List.map_cons, List.map_nil, hself]
end Go.Proofs.Ytkmipgekmbngcaa.Dp
/- The glue of a line, of the program, is what the plain functions say. Conditions: the slice reads as the list; the items are valid; the line lies in them. -/
namespace Go.Proofs.Ytkmipgekmbngcaa
open Go.RowKit

set_option maxHeartbeats 1000000 in
theorem lineStart_i (A : Option Addr) (n cap a t : Nat) (f : Int) (xs : List It) (w : World) (hn : xs.length = n) (hm : n ≤ 60) (hf : f + 1 = (a : Int)) (ha : a ≤ t) (ht : t ≤ n) (hr : Row w w.heap.size 6 A n (itc xs)) :
    Calls Try.prog 95 #[.slice A n cap, .int .i64 f, .int .i64 (t : Int)] w fun e w' => e = .returned (.int .i64 (lst xs a t : Nat)) ∧ Below w.heap.size w w' := by
  have HN := Lib.hid hn; clear hn
  have HF := Lib.hid hf
  go_enter Try.func95, Try.ntmps95
  go_wp2_with fail
  go_loopg [7] (t - a) (fun k i wr => ∃ j : Nat, a ≤ j ∧ j ≤ t ∧ k = t - j ∧ i = .int .i64 (j : Int) ∧ Hid (∀ i, a ≤ i → i < j → kd xs i ≠ 1) ∧ Below w.heap.size w wr)
  case atStart => exact ⟨a, Nat.le_refl _, ha, rfl, rfl, fun i h1 h2 => by omega, Below.refl _ _⟩
  case round =>
    obtain ⟨j, hj0, hj, hk, rfl, hall, hbel⟩ := hrel
    have HK := Lib.hid hk; clear hk
    have hsz := hbel.size
    clear hf
    by_cases hlt : j < t
    · obtain ⟨b, off, rfl, hb, hc⟩ := hr (by omega)
      have c0 : wr.cell? ⟨b, off + j * 6, none⟩ = _ := (hbel.cell (p := ⟨b, off + j * 6, none⟩) hb).trans (hc j 0 (by omega) (by omega))
      obtain ⟨x, hx⟩ : ∃ x, xs.getD j default = x := ⟨_, rfl⟩
      simp only [itc, itv, hx] at c0
      have Hx := Lib.hid hx; clear hx hc
      have hlt' : (j : Int) < (t : Int) := by omega
      have hltn : (j : Int) < (n : Int) := by omega
      rcases h1 : (x.k == 1) with _ | _
      · have h1' : x.k ≠ 1 := by simpa using h1
        have H1 := Lib.hid h1'
        clear h1'
        go_wp2_with fail
        go_roundg (t - (j + 1))
        case measure => have := HK.out; omega
        case rel =>
          refine ⟨j + 1, by omega, by omega, rfl, by go_num, fun i h2 h3 => ?_, by (repeat' (first | (with_reducible exact Below.refl _ _) | (with_reducible assumption) | (with_reducible refine Below.alloc ?_ ?_ _) | (with_reducible refine Below.drew ?_) | (with_reducible refine below_drewN ?_ _) | (with_reducible refine Below.setCell ?_ ?_ _) | (with_reducible refine below_then ?_ ?_ (by with_reducible assumption)) | (with_reducible exact Nat.le_refl _) | go_size | (simp only [*]; done)))⟩
          rcases Nat.lt_or_ge i j with h4 | h4
          · exact hall.out i h2 h4
          · obtain rfl : i = j := by omega
            rw [kd, Hx.out]
            exact H1.out
      · have h1' : x.k = 1 := by simpa using h1
        have E : lst xs a t = j := lst_eq HN.out ht (j - a) a j (by omega) hj hall.out (fun _ => by rw [kd, Hx.out]; exact h1')
        have HE := Lib.hid E
        clear h1' E
        go_wp2_with fail
        go_ret
        exact ⟨ret_int (by rw [HE.out]), hbel⟩
    · have E : lst xs a t = j := lst_eq HN.out ht (j - a) a j (by omega) hj hall.out (fun h => absurd h hlt)
      have HE := Lib.hid E
      clear E
      go_wp2_with fail
      go_ret
      exact ⟨ret_int (by rw [HE.out]), hbel⟩

theorem g2_i (a b c d e f : Int) (w : World) (h1 : (0 ≤ a ∧ a ≤ 100000) ∧ (0 ≤ b ∧ b ≤ 100000) ∧ (0 ≤ c ∧ c ≤ 100000)) (h2 : (0 ≤ d ∧ d ≤ 100000) ∧ (0 ≤ e ∧ e ≤ 100000) ∧ (0 ≤ f ∧ f ≤ 100000)) :
    Calls Try.prog 96 #[.agg #[.int .i64 a, .int .i64 b, .int .i64 c], .agg #[.int .i64 d, .int .i64 e, .int .i64 f]] w fun o w' => o = .returned (.agg #[.int .i64 (a + d), .int .i64 (b + e), .int .i64 (c + f)]) ∧ Below w.heap.size w w' := by
  obtain ⟨⟨a1, a2⟩, ⟨b1, b2⟩, c1, c2⟩ := h1
  obtain ⟨⟨d1, d2⟩, ⟨e1, e2⟩, f1, f2⟩ := h2
  go_enter Try.func96, Try.ntmps96
  go_wp2
  (first | go_returns | (refine bodyPost_ret (by simp [results, Try.results96, go_sem, *]; try rfl) rfl ?_))
  exact ⟨rfl, by (repeat' (first | (with_reducible exact Below.refl _ _) | (with_reducible assumption) | (with_reducible refine Below.alloc ?_ ?_ _) | (with_reducible refine Below.drew ?_) | (with_reducible refine below_drewN ?_ _) | (with_reducible refine Below.setCell ?_ ?_ _) | (with_reducible refine below_then ?_ ?_ (by with_reducible assumption)) | (with_reducible exact Nat.le_refl _) | go_size | (simp only [*]; done)))⟩

set_option maxHeartbeats 2000000 in
theorem lineGlue_i (A : Option Addr) (n cap a t : Nat) (f : Int) (xs : List It) (w : World) (hok : itemsOk xs = true) (hn : xs.length = n) (hcap : n ≤ cap ∧ cap ≤ maxLen) (hf : f + 1 = (a : Int)) (ha : a ≤ t) (ht : t < n) (hr : Row w w.heap.size 6 A n (itc xs)) :
    Calls Try.prog 90 #[.slice A n cap, .int .i64 f, .int .i64 (t : Int)] w fun e w' => e = .returned (.agg #[.int .i64 (lgW xs a t), .int .i64 (lgS xs a t), .int .i64 (lgH xs a t)]) ∧ Below w.heap.size w w' := by
  have hm := (itemsOk_len hok hn).2
  obtain ⟨hc1, hc2⟩ := hcap
  unfold maxLen at hc2
  obtain ⟨s, hs⟩ : ∃ s, lst xs a t = s := ⟨_, rfl⟩
  obtain ⟨s0, s1, s2, s3⟩ := lst_spec (a := a) (t := t) hn (by omega) ha
  rw [hs] at s0 s1
  have HS := Lib.hid hs
  have HN := Lib.hid hn
  have HOK := Lib.hid hok
  have HF := Lib.hid hf
  have hst : (s : Int) ≤ (t : Int) := by omega
  have htc : (t : Int) ≤ (cap : Int) := by omega
  have hlen : (t : Int) - (s : Int) = ((t - s : Nat) : Int) := by omega
  have HR := Lib.hid hr
  clear hs hok s2 s3
  obtain ⟨b, off, rfl, hbw, hcw⟩ := hr (by omega)
  have HC := Lib.hid hcw
  clear hcw hr
  go_enter Try.func90, Try.ntmps90
  go_wp2_with fail
  ((with_reducible refine (lineStart_i _ _ _ a t f xs _ HN.out hm HF.out ha (by omega) ?_).mono ?_); (exact (HR.out.alloc' _).alloc' _); rintro e w1 ⟨rfl, hb1⟩)
  have hz1 := hb1.size
  simp only [World.size_alloc] at hz1
  have g0 := Lib.hid (((Blk.new w 76 #[.int .i64 0, .int .i64 0, .int .i64 0]).alloc (.cells #[.int .i64 0, .int .i64 0, .int .i64 0] 76)).then_ hb1)
  have g1 := Lib.hid ((Blk.new_at (w.alloc (.cells #[.int .i64 0, .int .i64 0, .int .i64 0] 76)) 76 #[.int .i64 0, .int .i64 0, .int .i64 0] (w.heap.size + 1) (by simp)).then_ hb1)
  have hB1 : Below w.heap.size w w1 := below_then (Nat.le_refl _) (by (repeat' (first | (with_reducible exact Below.refl _ _) | (with_reducible assumption) | (with_reducible refine Below.alloc ?_ ?_ _) | (with_reducible refine Below.drew ?_) | (with_reducible refine below_drewN ?_ _) | (with_reducible refine Below.setCell ?_ ?_ _) | (with_reducible refine below_then ?_ ?_ (by with_reducible assumption)) | (with_reducible exact Nat.le_refl _) | go_size | (simp only [*]; done)))) hb1
  rw [HS.out]
  go_wp2_with fail
  go_loopg [18] (t - s) (fun k i wr => ∃ (j : Nat) (p q r : Int), j ≤ t - s ∧ k = t - s - j ∧ i = .int .i64 (j : Int) ∧ Hid (sW (sg xs s (s + j)) = p) ∧ Hid (sS (sg xs s (s + j)) = q) ∧ Hid (sH (sg xs s (s + j)) = r) ∧ Hid (Blk wr w.heap.size 76 #[.int .i64 0, .int .i64 0, .int .i64 0]) ∧ Hid (Blk wr (w.heap.size + 1) 76 #[.int .i64 p, .int .i64 q, .int .i64 r]) ∧ Below w.heap.size w wr)
  case atStart => exact ⟨0, 0, 0, 0, Nat.zero_le _, rfl, rfl, by rw [Hid, Nat.add_zero, sg_none _ (Nat.le_refl _)]; rfl, by rw [Hid, Nat.add_zero, sg_none _ (Nat.le_refl _)]; rfl, by rw [Hid, Nat.add_zero, sg_none _ (Nat.le_refl _)]; rfl, g0.out, g1.out, hB1⟩
  case round =>
    obtain ⟨j, p, q, r, hj, hk, rfl, hp, hq, hr', hb0, hb1', hbel⟩ := hrel
    have HK := Lib.hid hk; clear hk
    have hsz := hbel.size
    obtain ⟨⟨p1, p2⟩, ⟨q1, q2⟩, r1, r2⟩ := sg_b HOK.out HN.out (show s + j ≤ n by omega) hp.out hq.out hr'.out
    have zlt := hb0.out.lt
    have zc0 := hb0.out.cell 0; have zf0 := hb0.out.frozen 0
    have zc1 := hb0.out.cell 1; have zf1 := hb0.out.frozen 1
    have zc2 := hb0.out.cell 2; have zf2 := hb0.out.frozen 2
    simp only [List.getElem?_toArray, List.getElem?_cons_zero, List.getElem?_cons_succ] at zc0 zc1 zc2
    have olt := hb1'.out.lt
    have oc0 := hb1'.out.cell 0; have of0 := hb1'.out.frozen 0
    have oc1 := hb1'.out.cell 1; have of1 := hb1'.out.frozen 1
    have oc2 := hb1'.out.cell 2; have of2 := hb1'.out.frozen 2
    simp only [List.getElem?_toArray, List.getElem?_cons_zero, List.getElem?_cons_succ] at oc0 oc1 oc2
    by_cases hlt : j < t - s
    · have hcs : ∀ q, q < 6 → w.cell? ⟨b, off + s * 6 + j * 6 + q, none⟩ = some (itc xs (s + j) q) := fun q hq => by
        have h := HC.out (s + j) q (by omega) hq
        rw [show off + s * 6 + j * 6 + q = off + (s + j) * 6 + q by omega]
        exact h
      have c0 : wr.cell? ⟨b, off + s * 6 + j * 6, none⟩ = _ := (hbel.cell (p := ⟨b, off + s * 6 + j * 6, none⟩) hbw).trans (hcs 0 (by omega))
      have c1 : wr.cell? ⟨b, off + s * 6 + j * 6 + 1, none⟩ = _ := (hbel.cell (p := ⟨b, off + s * 6 + j * 6 + 1, none⟩) hbw).trans (hcs 1 (by omega))
      have c2 : wr.cell? ⟨b, off + s * 6 + j * 6 + 2, none⟩ = _ := (hbel.cell (p := ⟨b, off + s * 6 + j * 6 + 2, none⟩) hbw).trans (hcs 2 (by omega))
      have c3 : wr.cell? ⟨b, off + s * 6 + j * 6 + 3, none⟩ = _ := (hbel.cell (p := ⟨b, off + s * 6 + j * 6 + 3, none⟩) hbw).trans (hcs 3 (by omega))
      have c4 : wr.cell? ⟨b, off + s * 6 + j * 6 + 4, none⟩ = _ := (hbel.cell (p := ⟨b, off + s * 6 + j * 6 + 4, none⟩) hbw).trans (hcs 4 (by omega))
      have c5 : wr.cell? ⟨b, off + s * 6 + j * 6 + 5, none⟩ = _ := (hbel.cell (p := ⟨b, off + s * 6 + j * 6 + 5, none⟩) hbw).trans (hcs 5 (by omega))
      obtain ⟨x, hx⟩ : ∃ x, xs.getD (s + j) default = x := ⟨_, rfl⟩
      simp only [itc, itv, hx] at c0 c1 c2 c3 c4 c5
      obtain ⟨⟨x1, x2⟩, ⟨x3, x4⟩, ⟨x5, x6⟩, _⟩ := itemOk_b (itemsOk_at HOK.out HN.out (show s + j < n by omega) hx)
      have Hx := Lib.hid hx; clear hx hcs
      have hlt' : (j : Int) < (t : Int) - (s : Int) := by omega
      rcases h3 : (x.k == 3) with _ | _
      · have h3' : ¬ x.k = 3 := by simpa using h3
        have H3 := Lib.hid h3'
        clear h3'
        go_wp2_with fail
        ((with_reducible refine (g2_i _ _ _ _ _ _ _ (by omega) (by omega)).mono ?_); rintro e w2 ⟨rfl, hb2⟩)
        have hz2 := hb2.size
        simp only [World.size_alloc] at hz2
        have e0 := (hb0.out.alloc (.cells #[.int .i64 x.k, .int .i64 x.w, .int .i64 x.st, .int .i64 x.sh, .int .i64 x.pen, .bool x.fl] 78)).then_ hb2
        have e1 := (hb1'.out.alloc (.cells #[.int .i64 x.k, .int .i64 x.w, .int .i64 x.st, .int .i64 x.sh, .int .i64 x.pen, .bool x.fl] 78)).then_ hb2
        have E0 := Lib.hid e0
        have E1 := Lib.hid e1
        have hB2 : Below w.heap.size w w2 := below_then (Nat.le_refl _) (by (repeat' (first | (with_reducible exact Below.refl _ _) | (with_reducible assumption) | (with_reducible refine Below.alloc ?_ ?_ _) | (with_reducible refine Below.drew ?_) | (with_reducible refine below_drewN ?_ _) | (with_reducible refine Below.setCell ?_ ?_ _) | (with_reducible refine below_then ?_ ?_ (by with_reducible assumption)) | (with_reducible exact Nat.le_refl _) | go_size | (simp only [*]; done)))) hb2
        clear zlt zc0 zc1 zc2 zf0 zf1 zf2 olt oc0 oc1 oc2 of0 of1 of2 c0 c1 c2 c3 c4 c5
        have vlt := e1.lt
        have vc0 := e1.cell 0; have vf0 := e1.frozen 0
        have vc1 := e1.cell 1; have vf1 := e1.frozen 1
        have vc2 := e1.cell 2; have vf2 := e1.frozen 2
        simp only [List.getElem?_toArray, List.getElem?_cons_zero, List.getElem?_cons_succ] at vc0 vc1 vc2
        clear e0 e1
        go_wp2_with fail
        go_roundg (t - s - (j + 1))
        case measure => have := HK.out; omega
        case rel =>
          refine ⟨j + 1, p + x.w, q + x.st, r + x.sh, by omega, rfl, by go_num, ?_, ?_, ?_, ?_, ?_, by (repeat' (first | (with_reducible exact Below.refl _ _) | (with_reducible assumption) | (with_reducible refine Below.alloc ?_ ?_ _) | (with_reducible refine Below.drew ?_) | (with_reducible refine below_drewN ?_ _) | (with_reducible refine Below.setCell ?_ ?_ _) | (with_reducible refine below_then ?_ ?_ (by with_reducible assumption)) | (with_reducible exact Nat.le_refl _) | go_size | (simp only [*]; done)))⟩
          · show _ = _
            rw [show s + (j + 1) = s + j + 1 by omega, sg_snoc HN.out (by omega) (by omega) Hx.out, sW_snoc, hp.out, gw, if_neg H3.out]
          · show _ = _
            rw [show s + (j + 1) = s + j + 1 by omega, sg_snoc HN.out (by omega) (by omega) Hx.out, sS_snoc, hq.out, gs, if_neg H3.out]
          · show _ = _
            rw [show s + (j + 1) = s + j + 1 by omega, sg_snoc HN.out (by omega) (by omega) Hx.out, sH_snoc, hr'.out, gh, if_neg H3.out]
          · ((show Blk _ _ _ _); repeat' (first | (with_reducible exact E0.out) | (with_reducible refine Blk.alloc ?_ _) | (with_reducible refine Blk.drew ?_) | (with_reducible refine Blk.drewN ?_ _) | (with_reducible refine Blk.far ?_ ?_ _) | (with_reducible refine Blk.then_ ?_ (by with_reducible assumption)) | (simp; done) | (simp; omega) | omega))
          · ((show Blk _ _ _ _); apply Blk.eq; (case h => (repeat' (first | (with_reducible exact E1.out) | (with_reducible apply Blk.alloc) | (with_reducible apply Blk.drew) | (with_reducible apply Blk.drewN) | (with_reducible apply Blk.set_) | (with_reducible apply Blk.far) | (with_reducible apply Blk.then_; rotate_left; with_reducible assumption) | (simp; done) | (simp; omega) | omega))); (case e => (first | (simp []; done) | (simp [Nat.zero_add]; omega))))
      · have h3' : x.k = 3 := by simpa using h3
        have H3 := Lib.hid h3'
        clear h3'
        go_wp2_with fail
        go_roundg (t - s - (j + 1))
        case measure => have := HK.out; omega
        case rel =>
          refine ⟨j + 1, p, q, r, by omega, rfl, by go_num, ?_, ?_, ?_, ?_, ?_, by (repeat' (first | (with_reducible exact Below.refl _ _) | (with_reducible assumption) | (with_reducible refine Below.alloc ?_ ?_ _) | (with_reducible refine Below.drew ?_) | (with_reducible refine below_drewN ?_ _) | (with_reducible refine Below.setCell ?_ ?_ _) | (with_reducible refine below_then ?_ ?_ (by with_reducible assumption)) | (with_reducible exact Nat.le_refl _) | go_size | (simp only [*]; done)))⟩
          · show _ = _
            rw [show s + (j + 1) = s + j + 1 by omega, sg_snoc HN.out (by omega) (by omega) Hx.out, sW_snoc, hp.out, gw, if_pos H3.out, Int.add_zero]
          · show _ = _
            rw [show s + (j + 1) = s + j + 1 by omega, sg_snoc HN.out (by omega) (by omega) Hx.out, sS_snoc, hq.out, gs, if_pos H3.out, Int.add_zero]
          · show _ = _
            rw [show s + (j + 1) = s + j + 1 by omega, sg_snoc HN.out (by omega) (by omega) Hx.out, sH_snoc, hr'.out, gh, if_pos H3.out, Int.add_zero]
          · ((show Blk _ _ _ _); repeat' (first | (with_reducible exact hb0.out) | (with_reducible refine Blk.alloc ?_ _) | (with_reducible refine Blk.drew ?_) | (with_reducible refine Blk.drewN ?_ _) | (with_reducible refine Blk.far ?_ ?_ _) | (with_reducible refine Blk.then_ ?_ (by with_reducible assumption)) | (simp; done) | (simp; omega) | omega))
          · ((show Blk _ _ _ _); repeat' (first | (with_reducible exact hb1'.out) | (with_reducible refine Blk.alloc ?_ _) | (with_reducible refine Blk.drew ?_) | (with_reducible refine Blk.drewN ?_ _) | (with_reducible refine Blk.far ?_ ?_ _) | (with_reducible refine Blk.then_ ?_ (by with_reducible assumption)) | (simp; done) | (simp; omega) | omega))
    · have ej : s + j = t := by omega
      have hpp := hp.out
      have hqq := hq.out
      have hrr := hr'.out
      rw [ej] at hpp hqq hrr
      have c0 : wr.cell? ⟨b, off + t * 6, none⟩ = _ := (hbel.cell (p := ⟨b, off + t * 6, none⟩) hbw).trans (HC.out t 0 (by omega) (by omega))
      have c1 : wr.cell? ⟨b, off + t * 6 + 1, none⟩ = _ := (hbel.cell (p := ⟨b, off + t * 6 + 1, none⟩) hbw).trans (HC.out t 1 (by omega) (by omega))
      obtain ⟨x, hx⟩ : ∃ x, xs.getD t default = x := ⟨_, rfl⟩
      simp only [itc, itv, hx] at c0 c1
      obtain ⟨⟨x1, x2⟩, _⟩ := itemOk_b (itemsOk_at HOK.out HN.out ht hx)
      have ES : lgS xs a t = q := by rw [lgS, HS.out, hqq]
      have EH : lgH xs a t = r := by rw [lgH, HS.out, hrr]
      have EW : lgW xs a t = p + (if x.k = 3 then x.w else 0) := by rw [lgW, HS.out, hpp, kd, hx]
      have HES := Lib.hid ES
      have HEH := Lib.hid EH
      have HEW := Lib.hid EW
      have htn : (t : Int) < (n : Int) := by omega
      clear hx hpp hqq hrr ES EH EW
      rcases h3 : (x.k == 3) with _ | _
      · have h3' : ¬ x.k = 3 := by simpa using h3
        have H3 := Lib.hid h3'
        clear h3'
        go_wp2_with fail
        (first | go_returns | (refine bodyPost_ret (by simp [results, Try.results90, go_sem, *]; try rfl) rfl ?_))
        refine ⟨?_, by (repeat' (first | (with_reducible exact Below.refl _ _) | (with_reducible assumption) | (with_reducible refine Below.alloc ?_ ?_ _) | (with_reducible refine Below.drew ?_) | (with_reducible refine below_drewN ?_ _) | (with_reducible refine Below.setCell ?_ ?_ _) | (with_reducible refine below_then ?_ ?_ (by with_reducible assumption)) | (with_reducible exact Nat.le_refl _) | go_size | (simp only [*]; done)))⟩
        rw [HEW.out, HES.out, HEH.out, if_neg H3.out, Int.add_zero]
      · have h3' : x.k = 3 := by simpa using h3
        have H3 := Lib.hid h3'
        clear h3'
        have hne : ¬ b = w.heap.size + 1 := by omega
        go_wp2_with fail
        go_region
        all_goals go_wp2_with fail
        all_goals
          (first | go_returns | (refine bodyPost_ret (by simp [results, Try.results90, go_sem, *]; try rfl) rfl ?_))
          refine ⟨?_, by (repeat' (first | (with_reducible exact Below.refl _ _) | (with_reducible assumption) | (with_reducible refine Below.alloc ?_ ?_ _) | (with_reducible refine Below.drew ?_) | (with_reducible refine below_drewN ?_ _) | (with_reducible refine Below.setCell ?_ ?_ _) | (with_reducible refine below_then ?_ ?_ (by with_reducible assumption)) | (with_reducible exact Nat.le_refl _) | go_size | (simp only [*]; done)))⟩
          rw [HEW.out, HES.out, HEH.out, if_pos H3.out]
end Go.Proofs.Ytkmipgekmbngcaa
/- Items of a paragraph, of the reference: breaks and valid items are what the plain functions say. Conditions: the slice reads as the list. -/
namespace Go.Proofs.Ytkmipgekmbngcaa
open Go.RowKit

set_option maxHeartbeats 1000000 in
theorem isBreak_s (A : Option Addr) (n cap k : Nat) (xs : List It) (w : World) (hn : xs.length = n) (hk : k < n) (hm : n ≤ maxLen) (hr : Row w w.heap.size 6 A n (itc xs)) :
    Calls Try.prog 61 #[.slice A n cap, .int .i64 (k : Int)] w fun e w' => e = .returned (.bool (brk xs k)) ∧ Below w.heap.size w w' := by
  unfold maxLen at hm
  obtain ⟨b, off, rfl, hb, hc⟩ := hr (by omega)
  have c0 := hc k 0 hk (by omega)
  have c4 := hc k 4 hk (by omega)
  obtain ⟨x, hx⟩ : ∃ x, xs.getD k default = x := ⟨_, rfl⟩
  simp only [itc, itv, hx, Nat.add_zero] at c0 c4
  have Hx := Lib.hid hx
  have hlt : (k : Int) < (n : Int) := by omega
  clear hx hn
  cases k with
  | zero =>
    have E := brk_zero Hx.out
    simp only [Nat.zero_mul, Nat.add_zero] at c0 c4
    show Calls _ _ #[.slice (some ⟨b, off, none⟩) n cap, .int .i64 0] w _
    have HE := Lib.hid E
    clear E hc
    rcases h2 : (x.k == 2) with _ | _
    · rcases h3 : (x.k == 3) with _ | _
      · go_enter Try.func61, Try.ntmps61
        go_wp2_with fail
        go_ret
        exact ⟨ret_bool (by simp [HE.out, h3]), Below.refl _ _⟩
      · by_cases h4 : x.pen < 1000
        · go_enter Try.func61, Try.ntmps61
          go_wp2_with fail
          go_ret
          exact ⟨ret_bool (by simp [HE.out, h3, h4]), Below.refl _ _⟩
        · go_enter Try.func61, Try.ntmps61
          go_wp2_with fail
          go_ret
          exact ⟨ret_bool (by simp [HE.out, h3, h4]), Below.refl _ _⟩
    · have h3 : (x.k == 3) = false := by have : x.k = 2 := by simpa using h2
                                         simp [this]
      go_enter Try.func61, Try.ntmps61
      go_wp2_with fail
      go_ret
      exact ⟨ret_bool (by simp [HE.out, h3]), Below.refl _ _⟩
  | succ j =>
    have d0 := hc j 0 (by omega) (by omega)
    obtain ⟨y, hy⟩ : ∃ y, xs.getD j default = y := ⟨_, rfl⟩
    simp only [itc, itv, hy, Nat.add_zero] at d0
    have E := brk_succ Hx.out hy
    rw [show ((j + 1 : Nat) : Int) = (j : Int) + 1 by omega] at hlt ⊢
    have HE := Lib.hid E
    clear E hy hc
    rcases h2 : (x.k == 2) with _ | _
    · rcases h3 : (x.k == 3) with _ | _
      · have h3' : ¬ x.k = 3 := by simpa using h3
        have H3 := Lib.hid h3'
        clear h3'
        go_enter Try.func61, Try.ntmps61
        go_wp2_with fail
        go_ret
        exact ⟨ret_bool (by simp [HE.out, H3.out, h2]), Below.refl _ _⟩
      · have h3' : x.k = 3 := by simpa using h3
        have H3 := Lib.hid h3'
        clear h3'
        by_cases h4 : x.pen < 1000
        · go_enter Try.func61, Try.ntmps61
          go_wp2_with fail
          go_ret
          exact ⟨ret_bool (by simp [HE.out, H3.out, h4]), Below.refl _ _⟩
        · go_enter Try.func61, Try.ntmps61
          go_wp2_with fail
          go_ret
          exact ⟨ret_bool (by simp [HE.out, H3.out, h4]), Below.refl _ _⟩
    · have h3' : ¬ x.k = 3 := by have : x.k = 2 := by simpa using h2
                                 omega
      have H3 := Lib.hid h3'
      clear h3'
      go_enter Try.func61, Try.ntmps61
      go_wp2_with fail
      go_ret
      exact ⟨ret_bool (by simp [HE.out, H3.out, h2]), Below.refl _ _⟩

set_option maxHeartbeats 1000000 in
theorem validItems_s (A : Option Addr) (n cap : Nat) (xs : List It) (w : World) (hn : xs.length = n) (hm : n ≤ maxLen) (hr : Row w w.heap.size 6 A n (itc xs)) :
    Calls Try.prog 42 #[.slice A n cap] w fun e w' => e = .returned (.bool (itemsOk xs)) ∧ Below w.heap.size w w' := by
  unfold maxLen at hm
  have HN := Lib.hid hn; clear hn
  have hr0 := Lib.hid hr
  go_enter Try.func42, Try.ntmps42
  go_wp2_with fail
  go_loopg [3] n (fun k i wr => ∃ j : Nat, j ≤ n ∧ k = n - j ∧ i = .int .i64 j ∧ Hid ((xs.take j).all itemOk = true) ∧ Below w.heap.size w wr)
  case atStart => exact ⟨0, Nat.zero_le _, rfl, rfl, by simp [Hid], Below.refl _ _⟩
  case round =>
    obtain ⟨j, hj, hk, rfl, hall, hbel⟩ := hrel
    have HK := Lib.hid hk; clear hk
    have hsz := hbel.size
    by_cases hlt : j < n
    · obtain ⟨b, off, rfl, hb, hc⟩ := hr (by omega)
      have c0 : wr.cell? ⟨b, off + j * 6, none⟩ = _ := (hbel.cell (p := ⟨b, off + j * 6, none⟩) hb).trans (hc j 0 hlt (by omega))
      have c1 : wr.cell? ⟨b, off + j * 6 + 1, none⟩ = _ := (hbel.cell (p := ⟨b, off + j * 6 + 1, none⟩) hb).trans (hc j 1 hlt (by omega))
      have c2 : wr.cell? ⟨b, off + j * 6 + 2, none⟩ = _ := (hbel.cell (p := ⟨b, off + j * 6 + 2, none⟩) hb).trans (hc j 2 hlt (by omega))
      have c3 : wr.cell? ⟨b, off + j * 6 + 3, none⟩ = _ := (hbel.cell (p := ⟨b, off + j * 6 + 3, none⟩) hb).trans (hc j 3 hlt (by omega))
      have c4 : wr.cell? ⟨b, off + j * 6 + 4, none⟩ = _ := (hbel.cell (p := ⟨b, off + j * 6 + 4, none⟩) hb).trans (hc j 4 hlt (by omega))
      have c5 : wr.cell? ⟨b, off + j * 6 + 5, none⟩ = _ := (hbel.cell (p := ⟨b, off + j * 6 + 5, none⟩) hb).trans (hc j 5 hlt (by omega))
      obtain ⟨x, hx⟩ : ∃ x, xs.getD j default = x := ⟨_, rfl⟩
      simp only [itc, hx] at c0 c1 c2 c3 c4 c5
      have Hx := Lib.hid hx; clear hx hc
      obtain ⟨xk, xw, xst, xsh, xp, xf⟩ := x
      simp only [itv] at c0 c1 c2 c3 c4 c5
      obtain ⟨V, hV⟩ : ∃ V, itemOk ⟨xk, xw, xst, xsh, xp, xf⟩ = V := ⟨_, rfl⟩
      have HV := Lib.hid hV; clear hV
      have hlt' : (j : Int) < (n : Int) := by omega
      go_wp2_with fail
      ((with_reducible refine (validItem_s _ _ _ _ _ _ _).mono ?_); rintro e w1 ⟨rfl, hb1⟩)
      have hB : Below w.heap.size w w1 := below_then (Nat.le_refl _) (by (repeat' (first | (with_reducible exact Below.refl _ _) | (with_reducible assumption) | (with_reducible refine Below.alloc ?_ ?_ _) | (with_reducible refine Below.drew ?_) | (with_reducible refine below_drewN ?_ _) | (with_reducible refine Below.setCell ?_ ?_ _) | (with_reducible refine below_then ?_ ?_ (by with_reducible assumption)) | (with_reducible exact Nat.le_refl _) | go_size | (simp only [*]; done)))) hb1
      rw [HV.out]
      rcases V with _ | _
      · go_wp2_with fail
        go_ret
        exact ⟨ret_bool (items_bad HN.out hlt Hx.out HV.out).symm, hB⟩
      · go_wp2_with fail
        go_roundg (n - (j + 1))
        case measure => have := HK.out; omega
        case rel => exact ⟨j + 1, by omega, rfl, by go_num, all_more HN.out hlt Hx.out hall.out HV.out, hB⟩
    · rcases hl : inR n 1 60 with _ | _
      · have E := items_len HN.out hl
        have HE := Lib.hid E
        have HL := Lib.hid hl
        clear E hl
        go_wp2_with fail
        ((with_reducible refine (inRange_any _ _ _ _).mono ?_); rintro e w' ⟨rfl, rfl⟩)
        rw [HL.out]
        go_wp2_with fail
        go_ret
        exact ⟨ret_bool HE.out.symm, hbel⟩
      have h60 := inR_iff.1 hl
      have HL := Lib.hid hl; clear hl
      obtain ⟨m, rfl⟩ : ∃ m, n = m + 1 := ⟨n - 1, by omega⟩
      have hl1 : inR ((m : Int) + 1) 1 60 = true := inR_iff.2 ⟨by omega, by omega⟩
      have HL1 := Lib.hid hl1
      clear hl1
      obtain ⟨b, off, rfl, hb, hc⟩ := hr0.out (by omega)
      have c0 : wr.cell? ⟨b, off + m * 6, none⟩ = _ := (hbel.cell (p := ⟨b, off + m * 6, none⟩) hb).trans (hc m 0 (by omega) (by omega))
      have c4 : wr.cell? ⟨b, off + m * 6 + 4, none⟩ = _ := (hbel.cell (p := ⟨b, off + m * 6 + 4, none⟩) hb).trans (hc m 4 (by omega) (by omega))
      obtain ⟨x, hx⟩ : ∃ x, xs.getD m default = x := ⟨_, rfl⟩
      simp only [itc, itv, hx] at c0 c4
      have E : itemsOk xs = ((x.k == 3) && (x.pen == -1000)) := items_end HN.out (by omega) hall.out HL.out hx
      have HE := Lib.hid E
      clear E hx hc
      rcases h3 : (x.k == 3) with _ | _
      · go_wp2_with fail
        ((with_reducible refine (inRange_any _ _ _ _).mono ?_); rintro e w' ⟨rfl, rfl⟩)
        rw [HL1.out]
        go_wp2_with fail
        go_ret
        exact ⟨ret_bool (by simp [HE.out, h3]), hbel⟩
      · go_wp2_with fail
        ((with_reducible refine (inRange_any _ _ _ _).mono ?_); rintro e w' ⟨rfl, rfl⟩)
        rw [HL1.out]
        go_wp2_with fail
        go_ret
        exact ⟨ret_bool (by simp [HE.out, h3]), hbel⟩
end Go.Proofs.Ytkmipgekmbngcaa
/- Lines of a paragraph, of the reference: valid lines are what the plain functions say. Conditions: the slice reads as the list. -/
namespace Go.Proofs.Ytkmipgekmbngcaa
open Go.RowKit

theorem start_eq {xs : List It} {n a t j : Nat} (hn : xs.length = n) (ht : t < n) (ha : a ≤ t) (hF : noF xs a t = true) (haj : a ≤ j) (hj : j ≤ n) (h1 : ∀ i, a ≤ i → i < j → kd xs i ≠ 1) (h2 : j < n → kd xs j = 1 ∨ forced (xs.getD j default) = true) : sg xs j t = sg xs (lst xs a t) t := by
  rcases Nat.lt_or_ge j t with hlt | hge
  · have h3 : kd xs j = 1 := by
      rcases h2 (by omega) with h | h
      · exact h
      · have := (noF_iff hn (by omega)).1 hF j haj hlt
        rw [this] at h; cases h
    rw [lst_eq hn (by omega) (j - a) a j (by omega) (by omega) h1 (fun _ => h3)]
  · rw [lst_eq hn (by omega) (t - a) a t (by omega) (Nat.le_refl _) (fun i h3 h4 => h1 i h3 (by omega)) (by omega), sg_none _ hge, sg_none _ (Nat.le_refl _)]

set_option maxHeartbeats 1000000 in
theorem lineStart_s (A : Option Addr) (n cap a t : Nat) (f : Int) (xs : List It) (w : World) (hn : xs.length = n) (hm : n ≤ 60) (hf : f + 1 = (a : Int)) (ha : a ≤ t) (ht : t < n) (hF : noF xs a t = true) (hr : Row w w.heap.size 6 A n (itc xs)) :
    Calls Try.prog 93 #[.slice A n cap, .int .i64 f] w fun e w' => (∃ s : Nat, e = .returned (.int .i64 (s : Int)) ∧ a ≤ s ∧ s ≤ n ∧ sg xs s t = sg xs (lst xs a t) t) ∧ Below w.heap.size w w' := by
  have HN := Lib.hid hn; clear hn
  have HF := Lib.hid hF; clear hF
  go_enter Try.func93, Try.ntmps93
  go_wp2_with fail
  go_loopg [5] (n - a) (fun k i wr => ∃ j : Nat, a ≤ j ∧ j ≤ n ∧ k = n - j ∧ i = .int .i64 (j : Int) ∧ Hid (∀ i, a ≤ i → i < j → kd xs i ≠ 1) ∧ Below w.heap.size w wr)
  case atStart => exact ⟨a, Nat.le_refl _, by omega, rfl, rfl, fun i h1 h2 => by omega, Below.refl _ _⟩
  case round =>
    obtain ⟨j, hj0, hj, hk, rfl, hall, hbel⟩ := hrel
    have HK := Lib.hid hk; clear hk
    have hsz := hbel.size
    clear hf
    by_cases hlt : j < n
    · obtain ⟨b, off, rfl, hb, hc⟩ := hr (by omega)
      have c0 : wr.cell? ⟨b, off + j * 6, none⟩ = _ := (hbel.cell (p := ⟨b, off + j * 6, none⟩) hb).trans (hc j 0 (by omega) (by omega))
      have c4 : wr.cell? ⟨b, off + j * 6 + 4, none⟩ = _ := (hbel.cell (p := ⟨b, off + j * 6 + 4, none⟩) hb).trans (hc j 4 (by omega) (by omega))
      obtain ⟨x, hx⟩ : ∃ x, xs.getD j default = x := ⟨_, rfl⟩
      simp only [itc, itv, hx] at c0 c4
      have Hx := Lib.hid hx; clear hx hc
      have hltn : (j : Int) < (n : Int) := by omega
      obtain ⟨xk, xw, xst, xsh, xp, xf⟩ := x
      simp only at c0 c4
      have hnext : xk ≠ 1 → ∀ i, a ≤ i → i < j + 1 → kd xs i ≠ 1 := fun h1 i h2 h3 => by
        rcases Nat.lt_or_ge i j with h4 | h4
        · exact hall.out i h2 h4
        · obtain rfl : i = j := by omega
          rw [kd, Hx.out]
          exact h1
      have hstop : xk = 1 ∨ (xk = 3 ∧ xp = -1000) → sg xs j t = sg xs (lst xs a t) t := fun h => start_eq HN.out ht ha HF.out hj0 hj hall.out (fun _ => by
        rw [kd, Hx.out]
        rcases h with h | ⟨h, h'⟩
        · exact .inl h
        · right
          simp [forced, h, h'])
      have HNX := Lib.hid hnext
      have HST := Lib.hid hstop
      clear hnext hstop Hx
      by_cases h1 : xk = 1
      · subst h1
        go_wp2_with fail
        go_ret
        exact ⟨⟨j, rfl, hj0, hj, HST.out (by simp)⟩, hbel⟩
      · by_cases h3 : xk = 3
        · subst h3
          clear h1
          by_cases h4 : xp = -1000
          · subst h4
            go_wp2_with fail
            go_ret
            exact ⟨⟨j, rfl, hj0, hj, HST.out (by simp)⟩, hbel⟩
          · have h4' : (xp == -1000) = false := by simp [h4]
            go_wp2_with fail
            go_roundg (n - (j + 1))
            case measure => have := HK.out; omega
            case rel => exact ⟨j + 1, by omega, by omega, rfl, by go_num, HNX.out (by decide), by (repeat' (first | (with_reducible exact Below.refl _ _) | (with_reducible assumption) | (with_reducible refine Below.alloc ?_ ?_ _) | (with_reducible refine Below.drew ?_) | (with_reducible refine below_drewN ?_ _) | (with_reducible refine Below.setCell ?_ ?_ _) | (with_reducible refine below_then ?_ ?_ (by with_reducible assumption)) | (with_reducible exact Nat.le_refl _) | go_size | (simp only [*]; done)))⟩
        · have h1' : (xk == 1) = false := by simp [h1]
          have h3' : (xk == 3) = false := by simp [h3]
          go_wp2_with fail
          go_roundg (n - (j + 1))
          case measure => have := HK.out; omega
          case rel => exact ⟨j + 1, by omega, by omega, rfl, by go_num, HNX.out h1, by (repeat' (first | (with_reducible exact Below.refl _ _) | (with_reducible assumption) | (with_reducible refine Below.alloc ?_ ?_ _) | (with_reducible refine Below.drew ?_) | (with_reducible refine below_drewN ?_ _) | (with_reducible refine Below.setCell ?_ ?_ _) | (with_reducible refine below_then ?_ ?_ (by with_reducible assumption)) | (with_reducible exact Nat.le_refl _) | go_size | (simp only [*]; done)))⟩
    · go_wp2_with fail
      go_ret
      exact ⟨⟨j, rfl, hj0, hj, start_eq HN.out ht ha HF.out hj0 hj hall.out (fun h => absurd h hlt)⟩, hbel⟩

theorem noF_stop {xs : List It} {n a t j : Nat} {x : It} (hn : xs.length = n) (ht : t ≤ n) (ha : a ≤ j) (hj : j < t) (hx : xs.getD j default = x) (h : forced x = true) : noF xs a t = false := by
  rcases hv : noF xs a t with _ | _
  · rfl
  · have := (noF_iff hn ht).1 hv j ha hj
    rw [hx, h] at this
    cases this
/-- The part of validLine that looks for a forced break; what is ahead of it is known. -/
def vlPost (w : World) (xs : List It) (f t : Int) (e : Ending) (w' : World) : Prop := e = .returned (.bool (lineV xs f t)) ∧ Below w.heap.size w w'
theorem lv_bad {xs : List It} {f t : Int} (h : itemsOk xs = false) : lineV xs f t = false := by simp [lineV, h]
theorem lv_ok {xs : List It} {f t : Int} (h : itemsOk xs = true) : lineV xs f t = lnOk xs f t := by simp [lineV, h]

set_option maxHeartbeats 2000000 in
theorem validLine_s (A : Option Addr) (n cap : Nat) (f t : Int) (xs : List It) (w : World) (hn : xs.length = n) (hm : n ≤ maxLen) (hr : Row w w.heap.size 6 A n (itc xs)) :
    Calls Try.prog 62 #[.slice A n cap, .int .i64 f, .int .i64 t] w fun e w' => e = .returned (.bool (lineV xs f t)) ∧ Below w.heap.size w w' := by
  rcases hok : itemsOk xs with _ | _
  · rw [lv_bad hok]
    go_enter Try.func62, Try.ntmps62
    go_wp2_with fail
    ((with_reducible refine (validItems_s _ _ _ xs _ hn hm ?_).mono ?_); (exact hr); rintro e w1 ⟨rfl, hb1⟩)
    rw [hok]
    go_wp2_with fail
    go_ret
    exact ⟨rfl, hb1⟩
  rw [lv_ok hok]
  have h60 := (itemsOk_len hok hn).2
  have HOK := Lib.hid hok
  clear hok
  have h0 : ∀ E, lnOk xs f t = E → (f < -1 ∨ t ≤ f ∨ (n : Int) ≤ t) → E = false := fun E hE h => by
    rw [← hE]
    rcases h with h | h | h
    · exact ln_low h
    · exact ln_le h
    · exact ln_high hn h
  obtain ⟨E, hE⟩ : ∃ E, lnOk xs f t = E := ⟨_, rfl⟩
  by_cases h1 : f < -1
  · rw [hE, h0 E hE (.inl h1)]
    clear h0 hE
    go_enter Try.func62, Try.ntmps62
    go_wp2_with fail
    ((with_reducible refine (validItems_s _ _ _ xs _ hn hm ?_).mono ?_); (exact hr); rintro e w1 ⟨rfl, hb1⟩)
    rw [HOK.out]
    go_wp2_with fail
    go_ret
    exact ⟨rfl, hb1⟩
  by_cases h2 : t ≤ f
  · rw [hE, h0 E hE (.inr (.inl h2))]
    clear h0 hE
    go_enter Try.func62, Try.ntmps62
    go_wp2_with fail
    ((with_reducible refine (validItems_s _ _ _ xs _ hn hm ?_).mono ?_); (exact hr); rintro e w1 ⟨rfl, hb1⟩)
    rw [HOK.out]
    go_wp2_with fail
    go_ret
    exact ⟨rfl, hb1⟩
  by_cases h3 : (n : Int) ≤ t
  · rw [hE, h0 E hE (.inr (.inr h3))]
    clear h0 hE
    go_enter Try.func62, Try.ntmps62
    go_wp2_with fail
    ((with_reducible refine (validItems_s _ _ _ xs _ hn hm ?_).mono ?_); (exact hr); rintro e w1 ⟨rfl, hb1⟩)
    rw [HOK.out]
    go_wp2_with fail
    go_ret
    exact ⟨rfl, hb1⟩
  clear h0
  obtain ⟨u, rfl⟩ := Int.eq_ofNat_of_zero_le (show 0 ≤ t by omega)
  have hu : u < n := by omega
  have HE := Lib.hid hE
  rw [hE]
  clear hE h3
  rcases hB : brk xs u with _ | _
  · have e1 : E = false := by rw [← HE.out]; exact ln_t hB
    rw [e1]
    have HB := Lib.hid hB
    clear hB e1
    go_enter Try.func62, Try.ntmps62
    go_wp2_with fail
    ((with_reducible refine (validItems_s _ _ _ xs _ hn hm ?_).mono ?_); (exact hr); rintro e w1 ⟨rfl, hb1⟩)
    rw [HOK.out]
    go_wp2_with fail
    ((with_reducible refine (isBreak_s _ _ _ u xs _ hn hu hm ?_).mono ?_); (exact hr.then_ hb1); rintro e w2 ⟨rfl, hb2⟩)
    rw [HB.out]
    go_wp2_with fail
    go_ret
    exact ⟨rfl, below_then (Nat.le_refl _) hb1 hb2⟩
  have HB := Lib.hid hB
  -- the loop, from a on
  by_cases h4 : f = -1
  · subst h4
    have hE1 : E = noF xs 0 u := by rw [← HE.out]; exact ln_first hn hu hB
    have HE1 := Lib.hid hE1
    clear hB HE hE1 h1
    have hr0 := Lib.hid hr
    have hlu : (-1 : Int) < (u : Int) := by omega
    go_enter Try.func62, Try.ntmps62
    go_wp2_with fail
    ((with_reducible refine (validItems_s _ _ _ xs _ hn hm ?_).mono ?_); (exact hr); rintro e w1 ⟨rfl, hb1⟩)
    rw [HOK.out]
    go_wp2_with fail
    ((with_reducible refine (isBreak_s _ _ _ u xs _ hn hu hm ?_).mono ?_); (exact hr.then_ hb1); rintro e w2 ⟨rfl, hb2⟩)
    rw [HB.out]
    have hB2 : Below w.heap.size w w2 := below_then (Nat.le_refl _) hb1 hb2
    clear h2
    go_wp2_with fail
    go_loopg [7] u (fun k i wr => ∃ j : Nat, j ≤ u ∧ k = u - j ∧ i = .int .i64 (j : Int) ∧ Hid (∀ i, 0 ≤ i → i < j → forced (xs.getD i default) = false) ∧ Below w.heap.size w wr)
    case atStart => exact ⟨0, Nat.zero_le _, rfl, rfl, fun i h1 h2 => by omega, hB2⟩
    case round =>
      obtain ⟨j, hj, hk, rfl, hall, hbel⟩ := hrel
      have HK := Lib.hid hk; clear hk
      have hsz := hbel.size
      by_cases hlt : j < u
      · obtain ⟨b, off, rfl, hb, hc⟩ := hr (by omega)
        have c0 : wr.cell? ⟨b, off + j * 6, none⟩ = _ := (hbel.cell (p := ⟨b, off + j * 6, none⟩) hb).trans (hc j 0 (by omega) (by omega))
        have c4 : wr.cell? ⟨b, off + j * 6 + 4, none⟩ = _ := (hbel.cell (p := ⟨b, off + j * 6 + 4, none⟩) hb).trans (hc j 4 (by omega) (by omega))
        obtain ⟨x, hx⟩ : ∃ x, xs.getD j default = x := ⟨_, rfl⟩
        simp only [itc, itv, hx] at c0 c4
        have Hx := Lib.hid hx; clear hx hc
        have hltn : (j : Int) < (n : Int) := by omega
        have hltu : (j : Int) < (u : Int) := by omega
        have hnext : forced x = false → ∀ i, 0 ≤ i → i < j + 1 → forced (xs.getD i default) = false := fun h1 i h2 h3 => by
          rcases Nat.lt_or_ge i j with h4 | h4
          · exact hall.out i h2 h4
          · obtain rfl : i = j := by omega
            rw [Hx.out]
            exact h1
        have HNX := Lib.hid hnext
        clear hnext
        rcases h3 : (x.k == 3) with _ | _
        · go_wp2_with fail
          go_roundg (u - (j + 1))
          case measure => have := HK.out; omega
          case rel => exact ⟨j + 1, by omega, rfl, by go_num, HNX.out (by simp only [forced, h3, Bool.false_and]), by (repeat' (first | (with_reducible exact Below.refl _ _) | (with_reducible assumption) | (with_reducible refine Below.alloc ?_ ?_ _) | (with_reducible refine Below.drew ?_) | (with_reducible refine below_drewN ?_ _) | (with_reducible refine Below.setCell ?_ ?_ _) | (with_reducible refine below_then ?_ ?_ (by with_reducible assumption)) | (with_reducible exact Nat.le_refl _) | go_size | (simp only [*]; done)))⟩
        · rcases h4 : (x.pen == -1000) with _ | _
          · go_wp2_with fail
            go_roundg (u - (j + 1))
            case measure => have := HK.out; omega
            case rel => exact ⟨j + 1, by omega, rfl, by go_num, HNX.out (by simp only [forced, h3, h4, Bool.and_false]), by (repeat' (first | (with_reducible exact Below.refl _ _) | (with_reducible assumption) | (with_reducible refine Below.alloc ?_ ?_ _) | (with_reducible refine Below.drew ?_) | (with_reducible refine below_drewN ?_ _) | (with_reducible refine Below.setCell ?_ ?_ _) | (with_reducible refine below_then ?_ ?_ (by with_reducible assumption)) | (with_reducible exact Nat.le_refl _) | go_size | (simp only [*]; done)))⟩
          · go_wp2_with fail
            go_ret
            exact ⟨ret_bool (by rw [HE1.out]; exact (noF_stop hn (by omega) (Nat.zero_le _) hlt Hx.out (by simp only [forced, h3, h4, Bool.and_self])).symm), hbel⟩
      · go_wp2_with fail
        go_ret
        exact ⟨ret_bool (by rw [HE1.out]; exact ((noF_iff hn (by omega)).2 (fun i h1 h2 => hall.out i h1 (by omega))).symm), hbel⟩
  obtain ⟨v, rfl⟩ := Int.eq_ofNat_of_zero_le (show 0 ≤ f by omega)
  have hvu : v < u := by omega
  rcases hV : brk xs v with _ | _
  · have e1 : E = false := by rw [← HE.out]; exact ln_f hV
    rw [e1]
    have HV := Lib.hid hV
    clear hB hV e1 h1 h4
    go_enter Try.func62, Try.ntmps62
    go_wp2_with fail
    ((with_reducible refine (validItems_s _ _ _ xs _ hn hm ?_).mono ?_); (exact hr); rintro e w1 ⟨rfl, hb1⟩)
    rw [HOK.out]
    go_wp2_with fail
    ((with_reducible refine (isBreak_s _ _ _ u xs _ hn hu hm ?_).mono ?_); (exact hr.then_ hb1); rintro e w2 ⟨rfl, hb2⟩)
    rw [HB.out]
    have hB2 : Below w.heap.size w w2 := below_then (Nat.le_refl _) hb1 hb2
    go_wp2_with fail
    ((with_reducible refine (isBreak_s _ _ _ v xs _ hn (by omega) hm ?_).mono ?_); (exact (hr.then_ hb1).then_ hb2); rintro e w3 ⟨rfl, hb3⟩)
    rw [HV.out]
    go_wp2_with fail
    go_ret
    exact ⟨rfl, below_then (Nat.le_refl _) hB2 hb3⟩
  · have hE1 : E = noF xs (v + 1) u := by rw [← HE.out]; exact ln_mid hn hu hvu hB hV
    have HE1 := Lib.hid hE1
    have HV := Lib.hid hV
    clear hB hV HE hE1 h1 h4
    go_enter Try.func62, Try.ntmps62
    go_wp2_with fail
    ((with_reducible refine (validItems_s _ _ _ xs _ hn hm ?_).mono ?_); (exact hr); rintro e w1 ⟨rfl, hb1⟩)
    rw [HOK.out]
    go_wp2_with fail
    ((with_reducible refine (isBreak_s _ _ _ u xs _ hn hu hm ?_).mono ?_); (exact hr.then_ hb1); rintro e w2 ⟨rfl, hb2⟩)
    rw [HB.out]
    have hB2 : Below w.heap.size w w2 := below_then (Nat.le_refl _) hb1 hb2
    go_wp2_with fail
    ((with_reducible refine (isBreak_s _ _ _ v xs _ hn (by omega) hm ?_).mono ?_); (exact (hr.then_ hb1).then_ hb2); rintro e w3 ⟨rfl, hb3⟩)
    rw [HV.out]
    have hB3 : Below w.heap.size w w3 := below_then (Nat.le_refl _) hB2 hb3
    clear h2
    go_wp2_with fail
    go_loopg [7] (u - (v + 1)) (fun k i wr => ∃ j : Nat, v + 1 ≤ j ∧ j ≤ u ∧ k = u - j ∧ i = .int .i64 (j : Int) ∧ Hid (∀ i, v + 1 ≤ i → i < j → forced (xs.getD i default) = false) ∧ Below w.heap.size w wr)
    case atStart => exact ⟨v + 1, Nat.le_refl _, by omega, rfl, by go_num, fun i h1 h2 => by omega, hB3⟩
    case round =>
      obtain ⟨j, hj0, hj, hk, rfl, hall, hbel⟩ := hrel
      have HK := Lib.hid hk; clear hk
      have hsz := hbel.size
      by_cases hlt : j < u
      · obtain ⟨b, off, rfl, hb, hc⟩ := hr (by omega)
        have c0 : wr.cell? ⟨b, off + j * 6, none⟩ = _ := (hbel.cell (p := ⟨b, off + j * 6, none⟩) hb).trans (hc j 0 (by omega) (by omega))
        have c4 : wr.cell? ⟨b, off + j * 6 + 4, none⟩ = _ := (hbel.cell (p := ⟨b, off + j * 6 + 4, none⟩) hb).trans (hc j 4 (by omega) (by omega))
        obtain ⟨x, hx⟩ : ∃ x, xs.getD j default = x := ⟨_, rfl⟩
        simp only [itc, itv, hx] at c0 c4
        have Hx := Lib.hid hx; clear hx hc
        have hltn : (j : Int) < (n : Int) := by omega
        have hltu : (j : Int) < (u : Int) := by omega
        have hnext : forced x = false → ∀ i, v + 1 ≤ i → i < j + 1 → forced (xs.getD i default) = false := fun h1 i h2 h3 => by
          rcases Nat.lt_or_ge i j with h4 | h4
          · exact hall.out i h2 h4
          · obtain rfl : i = j := by omega
            rw [Hx.out]
            exact h1
        have HNX := Lib.hid hnext
        clear hnext
        rcases h3 : (x.k == 3) with _ | _
        · go_wp2_with fail
          go_roundg (u - (j + 1))
          case measure => have := HK.out; omega
          case rel => exact ⟨j + 1, by omega, by omega, rfl, by go_num, HNX.out (by simp only [forced, h3, Bool.false_and]), by (repeat' (first | (with_reducible exact Below.refl _ _) | (with_reducible assumption) | (with_reducible refine Below.alloc ?_ ?_ _) | (with_reducible refine Below.drew ?_) | (with_reducible refine below_drewN ?_ _) | (with_reducible refine Below.setCell ?_ ?_ _) | (with_reducible refine below_then ?_ ?_ (by with_reducible assumption)) | (with_reducible exact Nat.le_refl _) | go_size | (simp only [*]; done)))⟩
        · rcases h4 : (x.pen == -1000) with _ | _
          · go_wp2_with fail
            go_roundg (u - (j + 1))
            case measure => have := HK.out; omega
            case rel => exact ⟨j + 1, by omega, by omega, rfl, by go_num, HNX.out (by simp only [forced, h3, h4, Bool.and_false]), by (repeat' (first | (with_reducible exact Below.refl _ _) | (with_reducible assumption) | (with_reducible refine Below.alloc ?_ ?_ _) | (with_reducible refine Below.drew ?_) | (with_reducible refine below_drewN ?_ _) | (with_reducible refine Below.setCell ?_ ?_ _) | (with_reducible refine below_then ?_ ?_ (by with_reducible assumption)) | (with_reducible exact Nat.le_refl _) | go_size | (simp only [*]; done)))⟩
          · go_wp2_with fail
            go_ret
            exact ⟨ret_bool (by rw [HE1.out]; exact (noF_stop hn (by omega) hj0 hlt Hx.out (by simp only [forced, h3, h4, Bool.and_self])).symm), hbel⟩
      · go_wp2_with fail
        go_ret
        exact ⟨ret_bool (by rw [HE1.out]; exact ((noF_iff hn (by omega)).2 (fun i h1 h2 => hall.out i h1 (by omega))).symm), hbel⟩
end Go.Proofs.Ytkmipgekmbngcaa
