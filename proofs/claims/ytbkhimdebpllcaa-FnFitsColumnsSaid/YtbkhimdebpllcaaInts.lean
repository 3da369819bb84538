/- Slices of numbers: the copies, comparisons and marks of the exact laws. Conditions: the slices read as lists; at most 2^20 numbers where a row is made. -/
import Derived.Test.YtbkhimdebpllcaaAppend
namespace Go.Proofs.Ytbkhimdebpllcaa
open Go.RowKit

/-- The cells of a list of numbers. -/
def inc (xs : List Int) (i _ : Nat) : Value := .int .i64 (xs.getD i default)
def inl (xs : List Int) : List Value := xs.map (Value.int .i64)
theorem inl_len (xs : List Int) : (inl xs).length = xs.length := by simp [inl]
theorem inl_snoc (xs : List Int) (x : Int) : inl (xs ++ [x]) = inl xs ++ [.int .i64 x] := by simp [inl]
theorem inl_at (xs : List Int) : ∀ i q, i < xs.length → q < 1 → (inl xs)[i * 1 + q]? = some (inc xs i q) := by
  intro i q hi hq
  obtain rfl : q = 0 := by omega
  simp [inl, inc, List.getD_eq_getElem?_getD, hi]
theorem inl_one (xs : List Int) : ∀ u ∈ inl xs, u.oneCell' = true := by
  intro u hu
  simp only [inl, List.mem_map] at hu
  obtain ⟨a, _, rfl⟩ := hu
  rfl
/-- What the call owns and has filled with numbers. -/
def OwnI (w : World) (base : Nat) (A : Option Addr) (n c : Nat) (xs : List Int) : Prop := w.ownsRow base 3 1 (.slice A n c) n (inl xs)
theorem OwnI.len {w : World} {base : Nat} {A : Option Addr} {n c : Nat} {xs : List Int} (h : OwnI w base A n c xs) : xs.length = n := by
  have := h.1
  rw [inl_len] at this
  omega
theorem OwnI.row {w : World} {base : Nat} {A : Option Addr} {n c : Nat} {xs : List Int} (h : OwnI w base A n c xs) : Row w w.heap.size 1 A n (inc xs) :=
  Row.owned h fun i q hi hq => inl_at xs i q (by rw [h.len]; exact hi) hq
theorem OwnI.then_ {w w' : World} {base : Nat} {A : Option Addr} {n c : Nat} {xs : List Int} (h : OwnI w base A n c xs) (hb : Below w.heap.size w w') : OwnI w' base A n c xs :=
  h.kept (row := none) ⟨hb.os, hb.tape, hb.output, hb.size, fun k hk _ => hb.block k hk⟩ (by cases hv : Value.ownBlock (.slice A n c) <;> simp)
theorem OwnI.drew {w : World} {base : Nat} {A : Option Addr} {n c : Nat} {xs : List Int} (h : OwnI w base A n c xs) : OwnI w.drew base A n c xs := h
theorem OwnI.drewN {w : World} {base : Nat} {A : Option Addr} {n c : Nat} {xs : List Int} (h : OwnI w base A n c xs) (k : Nat) : OwnI (w.drewN k) base A n c xs := h
theorem OwnI.alloc {w : World} {base : Nat} {A : Option Addr} {n c : Nat} {xs : List Int} (h : OwnI w base A n c xs) (o : Obj) : OwnI (w.alloc o) base A n c xs := World.ownsRow.alloc h o
theorem OwnI.eq {w : World} {base : Nat} {A : Option Addr} {n c : Nat} {xs ys : List Int} (h : OwnI w base A n c xs) (e : xs = ys) : OwnI w base A n c ys := e ▸ h
theorem OwnI.mono {w : World} {base base' : Nat} {A : Option Addr} {n c : Nat} {xs : List Int} (h : OwnI w base A n c xs) (hb : base' ≤ base) : OwnI w base' A n c xs :=
  ⟨h.1, h.2.imp id fun ⟨g, cap, cur, h1, h2, h3⟩ => ⟨g, cap, cur, h1, by omega, h3⟩⟩
theorem own_form {w : World} {base sz n : Nat} {e : TypeId} {v : Value} {L : List Value} (h : w.ownsRow base e sz v n L) : ∃ (A : Option Addr) (c : Nat), v = .slice A n c := by
  rcases h.2 with ⟨rfl, rfl⟩ | ⟨g, cap, cur, rfl, _⟩
  · exact ⟨none, 0, rfl⟩
  · exact ⟨some ⟨g, 0, none⟩, cap, rfl⟩
theorem OwnI.blk {w : World} {base : Nat} {A : Option Addr} {n c : Nat} {xs : List Int} (h : OwnI w base A n c xs) : ∀ x, A = some x → base ≤ x.block ∧ x.block < w.heap.size := by
  intro x hx
  subst hx
  exact h.lt x.block rfl
theorem OwnI.block {w : World} {base : Nat} {A : Option Addr} {n c : Nat} {xs : List Int} (h : OwnI w base A n c xs) : ∀ k, Value.ownBlock (.slice A n c) = some k → base ≤ k ∧ k < w.heap.size := World.ownsRow.lt h
/-- Two slices in different blocks. -/
theorem OwnI.apart {w w' : World} {base : Nat} {A B : Option Addr} {n c m d : Nat} {xs : List Int} (h : OwnI w base A n c xs) (hg : w.grownBy w' (Value.ownBlock (.slice B m d))) (hb : ∀ x, A = some x → ∀ y, B = some y → x.block ≠ y.block) : OwnI w' base A n c xs := by
  refine h.kept hg ?_
  cases A with
  | none => exact .inl rfl
  | some x =>
    cases B with
    | none => exact .inr (by simp [Value.ownBlock])
    | some y => exact .inr (by have := hb x rfl y rfl; simpa [Value.ownBlock] using this)

theorem OwnI.other {w : World} {base : Nat} {A : Option Addr} {n c : Nat} {xs : List Int} (h : OwnI w base A n c xs) {a : Addr} (hne : ∀ y, A = some y → y.block ≠ a.block) (u : Value) : OwnI (w.setCell a u) base A n c xs := by
  refine h.kept (row := some a.block) ⟨rfl, rfl, rfl, by simp [World.setCell], fun k _ hk => Below.heap_setCell w a u k (fun e => hk (by rw [e]))⟩ ?_
  cases A with
  | none => exact .inl rfl
  | some y => exact .inr (by have := hne y rfl; simpa [Value.ownBlock] using this)

theorem int_info : (Try.prog.info? 3).map (fun i => (i.zero, i.size, i.bytes)) = some (some (.int .i64 0), 1, 8) := by kernel_rfl

/-- A row that is being filled. -/
def fillI (xs : List Int) (j n : Nat) : List Int := xs.take j ++ List.replicate (n - j) 0
theorem fillI_zero (xs : List Int) (n : Nat) : fillI xs 0 n = List.replicate n 0 := by simp [fillI]
theorem fillI_full (xs : List Int) (n : Nat) (h : xs.length = n) : fillI xs n n = xs := by simp [fillI, ← h]
theorem fillI_len {xs : List Int} {n j : Nat} (h : xs.length = n) (hj : j ≤ n) : (fillI xs j n).length = n := by simp [fillI, h]; omega
theorem fillI_set {xs : List Int} {n j : Nat} {x : Int} (h : xs.length = n) (hj : j < n) (hx : xs.getD j default = x) : (fillI xs j n).set j x = fillI xs (j + 1) n := by
  apply List.ext_getElem?
  intro i
  have hl : (xs.take j).length = j := by simp; omega
  rw [List.getElem?_set]
  unfold fillI
  rw [List.length_append, hl, List.length_replicate]
  by_cases e : j = i
  · subst e
    rw [if_pos rfl, if_pos (by omega), List.getElem?_append_left (by simp; omega), List.getElem?_take_of_lt (by omega)]
    rw [← hx, List.getD_eq_getElem?_getD, List.getElem?_eq_getElem (by omega)]
    rfl
  · rw [if_neg e]
    rcases Nat.lt_or_ge i j with hi | hi
    · rw [List.getElem?_append_left (by omega), List.getElem?_append_left (by simp; omega), List.getElem?_take_of_lt hi, List.getElem?_take_of_lt (by omega)]
    · rw [List.getElem?_append_right (by omega), List.getElem?_append_right (by simp; omega), hl]
      have hl' : (xs.take (j + 1)).length = j + 1 := by simp; omega
      rw [hl', List.getElem?_replicate, List.getElem?_replicate]
      by_cases h2 : i < n
      · rw [if_pos (by omega), if_pos (by omega)]
      · rw [if_neg (by omega), if_neg (by omega)]
theorem inl_set (xs : List Int) (j : Nat) (x : Int) : (inl xs).set j (.int .i64 x) = inl (xs.set j x) := by simp [inl, List.map_set]
theorem OwnI.stored {w : World} {base g n c j : Nat} {xs : List Int} (h : OwnI w base (some ⟨g, 0, none⟩) n c xs) (x : Int) : OwnI (w.setCell ⟨g, j, none⟩ (.int .i64 x)) base (some ⟨g, 0, none⟩) n c (xs.set j x) := by
  have := (World.ownsRow.stored h j (.int .i64 x)).1
  rwa [inl_set] at this
theorem OwnI.cellI {w : World} {base g n c j : Nat} {xs : List Int} (h : OwnI w base (some ⟨g, 0, none⟩) n c xs) (hj : j < n) : w.cell? ⟨g, j, none⟩ = some (.int .i64 (xs.getD j default)) := by
  have := World.ownsRow.cellAt h j (by omega)
  rw [this]
  have hl := h.len
  simp [inl, List.getD_eq_getElem?_getD, hl, hj]
theorem made_own (w : World) (z : Value) (n : Nat) (hn : n ≤ maxLen) (t : TypeId) (hz : z.cells = #[z]) : (w.alloc (.cells (madeCells z.cells (n * 1)) t)).ownsRow w.heap.size t 1 (.slice (some ⟨w.heap.size, 0, none⟩) n n) n (List.replicate n z) := by
  refine ⟨by simp, .inr ⟨w.heap.size, n, _, rfl, Nat.le_refl _, heap_alloc_new w _, Nat.le_refl _, hn, by simp [madeCells], ?_⟩⟩
  apply List.ext_getElem?
  intro i
  rw [hz]
  simp only [madeCells, Nat.mul_one]
  rw [List.getElem?_take, List.getElem?_replicate]
  by_cases h : i < n
  · rw [if_pos h, if_pos h]
    simp [h, Nat.mod_one]
  · rw [if_neg h, if_neg h]

theorem toIntS_any (A : Option Addr) (n cap : Nat) (xs : List Int) (w : World) (hn : xs.length = n) (hm : n ≤ 1048576) (hr : Row w w.heap.size 1 A n (inc xs)) :
    Calls Try.prog 13 #[.slice A n cap] w fun e w' => e = .returned (.slice (some ⟨w.heap.size, 0, none⟩) n n) ∧ OwnI w' w.heap.size (some ⟨w.heap.size, 0, none⟩) n n xs ∧ Below w.heap.size w w' := by
  obtain ⟨i0, hi, hz0, hz1, hz2⟩ := info_parts int_info
  have hmk := make_n (P := Try.prog) 22 3 i0 _ Try.underlying22 hi hz0 n (by rw [hz2]; omega) (by omega)
  rw [hz1] at hmk
  have HN := Lib.hid hn; clear hn
  go_enter Try.func13, Try.ntmps13
  go_wp2_with fail
  go_loopg [4] n (fun k i wr => ∃ j : Nat, j ≤ n ∧ k = n - j ∧ i = .int .i64 j ∧ Hid (OwnI wr w.heap.size (some ⟨w.heap.size, 0, none⟩) n n (fillI xs j n)) ∧ Below w.heap.size w wr)
  case atStart => exact ⟨0, Nat.zero_le _, rfl, rfl, by rw [fillI_zero]; have := made_own w (.int .i64 0) n (by unfold maxLen; omega) 3 rfl; simpa [OwnI, inl, Hid, Value.cells] using this, by (repeat' (first | (with_reducible exact Below.refl _ _) | (with_reducible assumption) | (with_reducible refine Below.alloc ?_ ?_ _) | (with_reducible refine Below.drew ?_) | (with_reducible refine below_drewN ?_ _) | (with_reducible refine Below.setCell ?_ ?_ _) | (with_reducible refine below_then ?_ ?_ (by with_reducible assumption)) | (with_reducible exact Nat.le_refl _) | go_size | (simp only [*]; done)))⟩
  case round =>
    obtain ⟨j, hj, hk, rfl, hown, hbel⟩ := hrel
    have HK := Lib.hid hk; clear hk
    have hsz := hbel.size
    have olt := (hown.out.lt w.heap.size rfl).2
    by_cases hlt : j < n
    · obtain ⟨b, off, rfl, hb, hc⟩ := hr.at1 (by omega)
      have c0 : wr.cell? ⟨b, off + j, none⟩ = _ := (hbel.cell (p := ⟨b, off + j, none⟩) hb).trans (hc j hlt)
      obtain ⟨x, hx⟩ : ∃ x, xs.getD j default = x := ⟨_, rfl⟩
      simp only [inc, hx] at c0
      have Hx := Lib.hid hx; clear hx hc
      have o0 := hown.out.cellI hlt
      have of0 := hown.out.frozenAt j
      go_wp2_with fail
      go_roundg (n - (j + 1))
      case measure => have := HK.out; omega
      case rel => exact ⟨j + 1, by omega, rfl, by go_num, (hown.out.stored x).eq (fillI_set HN.out hlt Hx.out), by (repeat' (first | (with_reducible exact Below.refl _ _) | (with_reducible assumption) | (with_reducible refine Below.alloc ?_ ?_ _) | (with_reducible refine Below.drew ?_) | (with_reducible refine below_drewN ?_ _) | (with_reducible refine Below.setCell ?_ ?_ _) | (with_reducible refine below_then ?_ ?_ (by with_reducible assumption)) | (with_reducible exact Nat.le_refl _) | go_size | (simp only [*]; done)))⟩
    · go_wp2_with fail
      go_ret
      have ej : j = n := by omega
      subst ej
      exact ⟨rfl, hown.out.eq (fillI_full xs j HN.out), by (repeat' (first | (with_reducible exact Below.refl _ _) | (with_reducible assumption) | (with_reducible refine Below.alloc ?_ ?_ _) | (with_reducible refine Below.drew ?_) | (with_reducible refine below_drewN ?_ _) | (with_reducible refine Below.setCell ?_ ?_ _) | (with_reducible refine below_then ?_ ?_ (by with_reducible assumption)) | (with_reducible exact Nat.le_refl _) | go_size | (simp only [*]; done)))⟩

theorem eqIntS_same (A A' : Option Addr) (n cap cap' : Nat) (xs : List Int) (w : World) (hm : n ≤ maxLen) (hr : Row w w.heap.size 1 A n (inc xs)) (hr' : Row w w.heap.size 1 A' n (inc xs)) :
    Calls Try.prog 15 #[.slice A n cap, .slice A' n cap'] w fun e w' => e = .returned (.bool true) ∧ Below w.heap.size w w' := by
  unfold maxLen at hm
  go_enter Try.func15, Try.ntmps15
  go_wp2_with fail
  go_loopg [5] n (fun k i wr => ∃ j : Nat, j ≤ n ∧ k = n - j ∧ i = .int .i64 j ∧ Below w.heap.size w wr)
  case atStart => exact ⟨0, Nat.zero_le _, rfl, rfl, Below.refl _ _⟩
  case round =>
    obtain ⟨j, hj, hk, rfl, hbel⟩ := hrel
    have HK := Lib.hid hk; clear hk
    have hsz := hbel.size
    by_cases hlt : j < n
    · obtain ⟨b', off', rfl, hb', hc'⟩ := hr'.at1 (by omega)
      have d0 : wr.cell? ⟨b', off' + j, none⟩ = _ := (hbel.cell (p := ⟨b', off' + j, none⟩) hb').trans (hc' j hlt)
      obtain ⟨b, off, rfl, hb, hc⟩ := hr.at1 (by omega)
      have c0 : wr.cell? ⟨b, off + j, none⟩ = _ := (hbel.cell (p := ⟨b, off + j, none⟩) hb).trans (hc j hlt)
      obtain ⟨x, hx⟩ : ∃ x, xs.getD j default = x := ⟨_, rfl⟩
      simp only [inc, hx] at c0 d0
      clear hc hc' hx
      have hlt' : (j : Int) < (n : Int) := by omega
      go_wp2_with fail
      go_region
      all_goals
        go_wp2_with fail
        go_roundg (n - (j + 1))
        case measure => have := HK.out; omega
        case rel => exact ⟨j + 1, by omega, rfl, by go_num, by (repeat' (first | (with_reducible exact Below.refl _ _) | (with_reducible assumption) | (with_reducible refine Below.alloc ?_ ?_ _) | (with_reducible refine Below.drew ?_) | (with_reducible refine below_drewN ?_ _) | (with_reducible refine Below.setCell ?_ ?_ _) | (with_reducible refine below_then ?_ ?_ (by with_reducible assumption)) | (with_reducible exact Nat.le_refl _) | go_size | (simp only [*]; done)))⟩
    · go_wp2_with fail
      go_ret
      exact ⟨rfl, hbel⟩

end Go.Proofs.Ytbkhimdebpllcaa
