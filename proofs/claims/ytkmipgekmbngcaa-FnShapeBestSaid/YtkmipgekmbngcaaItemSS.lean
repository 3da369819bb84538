/- Slices of items of a paragraph: copies, comparisons and marks. Conditions: the slice reads as the list; at most 2^20 items where a row is made. -/
import Derived.Test.YtkmipgekmbngcaaMSb3
namespace Go.Proofs.Ytkmipgekmbngcaa
open Go.RowKit

theorem it_step {xs : List It} {n j : Nat} {x : It} {z : Nat → Value} (hx : xs.getD j default = x) : ∀ i q, i < n → q < 6 →
    (if i = j ∧ q = 5 then itv x 5 else if i = j ∧ q = 4 then itv x 4 else if i = j ∧ q = 3 then itv x 3 else if i = j ∧ q = 2 then itv x 2 else if i = j ∧ q = 1 then itv x 1 else if i = j ∧ q = 0 then itv x 0 else if i < j then itc xs i q else z q) = if i < j + 1 then itc xs i q else z q := by
  intro i q _ hq
  by_cases e : i = j
  · subst e
    match q, hq with
    | 0, _ => simp [itc, ← hx]
    | 1, _ => simp [itc, ← hx]
    | 2, _ => simp [itc, ← hx]
    | 3, _ => simp [itc, ← hx]
    | 4, _ => simp [itc, ← hx]
    | 5, _ => simp [itc, ← hx]
  · have e2 : (i < j + 1) = (i < j) := by simp; omega
    simp [e, e2]
theorem szItemS_any (A : Option Addr) (n cap : Nat) (m : Int) (w : World) (hn : n ≤ maxLen) (h0 : 0 ≤ m) (hm : m ≤ 1048576) :
    Calls Try.prog 24 #[.slice A n cap, .int .i64 m] w fun e w' => e = .returned (.int .i64 (if m < n then -1 else m - n)) ∧ w = w' := by
  unfold maxLen at hn
  by_cases h : m < n
  · rw [if_pos h]
    go_enter Try.func24, Try.ntmps24
    go_wp2
    go_ret
    exact ⟨rfl, rfl⟩
  · rw [if_neg h]
    go_enter Try.func24, Try.ntmps24
    go_wp2
    go_ret
    exact ⟨rfl, rfl⟩

theorem szItemS_ok (A : Option Addr) (n cap : Nat) (w : World) (hn : n ≤ 1048576) :
    Calls Try.prog 24 #[.slice A n cap, .int .i64 1048576] w fun e w' => e = .returned (.int .i64 (1048576 - n)) ∧ w = w' :=
  (szItemS_any A n cap 1048576 w (by unfold maxLen; omega) (by omega) (by omega)).mono fun e w' ⟨h1, h2⟩ => ⟨by rw [h1, if_neg (by omega)], h2⟩
theorem szItemS_big (A : Option Addr) (n cap : Nat) (w : World) (hn : n ≤ maxLen) (hb : 1048576 < n) :
    Calls Try.prog 24 #[.slice A n cap, .int .i64 1048576] w fun e w' => e = .returned (.int .i64 (-1)) ∧ w = w' :=
  (szItemS_any A n cap 1048576 w hn (by omega) (by omega)).mono fun e w' ⟨h1, h2⟩ => ⟨by rw [h1, if_pos (by omega)], h2⟩

set_option maxHeartbeats 1000000 in
theorem eqItemS_same (A A' : Option Addr) (n cap cap' : Nat) (xs : List It) (w : World) (hm : n ≤ maxLen) (hr : Row w w.heap.size 6 A n (itc xs)) (hr' : Row w w.heap.size 6 A' n (itc xs)) :
    Calls Try.prog 27 #[.slice A n cap, .slice A' n cap'] w fun e w' => e = .returned (.bool true) ∧ Below w.heap.size w w' := by
  unfold maxLen at hm
  go_enter Try.func27, Try.ntmps27
  go_wp2_with fail
  go_loopg [5] n (fun k i wr => ∃ j : Nat, j ≤ n ∧ k = n - j ∧ i = .int .i64 j ∧ Below w.heap.size w wr)
  case atStart => exact ⟨0, Nat.zero_le _, rfl, rfl, Below.refl _ _⟩
  case round =>
    obtain ⟨j, hj, hk, rfl, hbel⟩ := hrel
    have HK := Lib.hid hk; clear hk
    have hsz := hbel.size
    by_cases hlt : j < n
    · obtain ⟨b', off', rfl, hb', hc'⟩ := hr' (by omega)
      have d0 : wr.cell? ⟨b', off' + j * 6, none⟩ = _ := (hbel.cell (p := ⟨b', off' + j * 6, none⟩) hb').trans (hc' j 0 hlt (by omega))
      have d1 : wr.cell? ⟨b', off' + j * 6 + 1, none⟩ = _ := (hbel.cell (p := ⟨b', off' + j * 6 + 1, none⟩) hb').trans (hc' j 1 hlt (by omega))
      have d2 : wr.cell? ⟨b', off' + j * 6 + 2, none⟩ = _ := (hbel.cell (p := ⟨b', off' + j * 6 + 2, none⟩) hb').trans (hc' j 2 hlt (by omega))
      have d3 : wr.cell? ⟨b', off' + j * 6 + 3, none⟩ = _ := (hbel.cell (p := ⟨b', off' + j * 6 + 3, none⟩) hb').trans (hc' j 3 hlt (by omega))
      have d4 : wr.cell? ⟨b', off' + j * 6 + 4, none⟩ = _ := (hbel.cell (p := ⟨b', off' + j * 6 + 4, none⟩) hb').trans (hc' j 4 hlt (by omega))
      have d5 : wr.cell? ⟨b', off' + j * 6 + 5, none⟩ = _ := (hbel.cell (p := ⟨b', off' + j * 6 + 5, none⟩) hb').trans (hc' j 5 hlt (by omega))
      obtain ⟨b, off, rfl, hb, hc⟩ := hr (by omega)
      have c0 : wr.cell? ⟨b, off + j * 6, none⟩ = _ := (hbel.cell (p := ⟨b, off + j * 6, none⟩) hb).trans (hc j 0 hlt (by omega))
      have c1 : wr.cell? ⟨b, off + j * 6 + 1, none⟩ = _ := (hbel.cell (p := ⟨b, off + j * 6 + 1, none⟩) hb).trans (hc j 1 hlt (by omega))
      have c2 : wr.cell? ⟨b, off + j * 6 + 2, none⟩ = _ := (hbel.cell (p := ⟨b, off + j * 6 + 2, none⟩) hb).trans (hc j 2 hlt (by omega))
      have c3 : wr.cell? ⟨b, off + j * 6 + 3, none⟩ = _ := (hbel.cell (p := ⟨b, off + j * 6 + 3, none⟩) hb).trans (hc j 3 hlt (by omega))
      have c4 : wr.cell? ⟨b, off + j * 6 + 4, none⟩ = _ := (hbel.cell (p := ⟨b, off + j * 6 + 4, none⟩) hb).trans (hc j 4 hlt (by omega))
      have c5 : wr.cell? ⟨b, off + j * 6 + 5, none⟩ = _ := (hbel.cell (p := ⟨b, off + j * 6 + 5, none⟩) hb).trans (hc j 5 hlt (by omega))
      obtain ⟨x, hx⟩ : ∃ x, xs.getD j default = x := ⟨_, rfl⟩
      simp only [itc, itv, hx] at c0 c1 c2 c3 c4 c5 d0 d1 d2 d3 d4 d5
      clear hc hc' hx
      have hlt' : (j : Int) < (n : Int) := by omega
      have hbw : b < wr.heap.size := by omega
      have hbw' : b' < wr.heap.size := by omega
      go_wp2_with fail
      go_region_held3 (fun w' => w'.cell? ⟨b, off + j * 6, none⟩ = some (.int .i64 x.k) ∧ w'.cell? ⟨b, off + j * 6 + 1, none⟩ = some (.int .i64 x.w) ∧ w'.cell? ⟨b, off + j * 6 + 2, none⟩ = some (.int .i64 x.st) ∧ w'.cell? ⟨b, off + j * 6 + 3, none⟩ = some (.int .i64 x.sh) ∧ w'.cell? ⟨b, off + j * 6 + 4, none⟩ = some (.int .i64 x.pen) ∧ w'.cell? ⟨b, off + j * 6 + 5, none⟩ = some (.bool x.fl) ∧ w'.cell? ⟨b', off' + j * 6, none⟩ = some (.int .i64 x.k) ∧ w'.cell? ⟨b', off' + j * 6 + 1, none⟩ = some (.int .i64 x.w) ∧ w'.cell? ⟨b', off' + j * 6 + 2, none⟩ = some (.int .i64 x.st) ∧ w'.cell? ⟨b', off' + j * 6 + 3, none⟩ = some (.int .i64 x.sh) ∧ w'.cell? ⟨b', off' + j * 6 + 4, none⟩ = some (.int .i64 x.pen) ∧ w'.cell? ⟨b', off' + j * 6 + 5, none⟩ = some (.bool x.fl) ∧ Below w.heap.size w w')
        (first | exact ⟨c0, c1, c2, c3, c4, c5, d0, d1, d2, d3, d4, d5, hbel⟩ | exact ⟨c0, c1, c2, c3, c4, c5, d0, d1, d2, d3, d4, d5, hbel.drew⟩ | exact ⟨e0, e1, e2, e3, e4, e5, f0, f1, f2, f3, f4, f5, below_then (Nat.le_refl _) hbel.drew hb1⟩)
        (first | (go_at_call 67; refine (eqItem_same _ _ _ _ _ _ _).mono ?_; rintro e w' ⟨rfl, hb1⟩; have e0 := (hb1.cell (p := ⟨b, off + j * 6, none⟩) hbw).trans c0; have e1 := (hb1.cell (p := ⟨b, off + j * 6 + 1, none⟩) hbw).trans c1; have e2 := (hb1.cell (p := ⟨b, off + j * 6 + 2, none⟩) hbw).trans c2; have e3 := (hb1.cell (p := ⟨b, off + j * 6 + 3, none⟩) hbw).trans c3; have e4 := (hb1.cell (p := ⟨b, off + j * 6 + 4, none⟩) hbw).trans c4; have e5 := (hb1.cell (p := ⟨b, off + j * 6 + 5, none⟩) hbw).trans c5; have f0 := (hb1.cell (p := ⟨b', off' + j * 6, none⟩) hbw').trans d0; have f1 := (hb1.cell (p := ⟨b', off' + j * 6 + 1, none⟩) hbw').trans d1; have f2 := (hb1.cell (p := ⟨b', off' + j * 6 + 2, none⟩) hbw').trans d2; have f3 := (hb1.cell (p := ⟨b', off' + j * 6 + 3, none⟩) hbw').trans d3; have f4 := (hb1.cell (p := ⟨b', off' + j * 6 + 4, none⟩) hbw').trans d4; have f5 := (hb1.cell (p := ⟨b', off' + j * 6 + 5, none⟩) hbw').trans d5))
      go_wp2_with fail
      go_roundg (n - (j + 1))
      case measure => have := HK.out; omega
      case rel => exact ⟨j + 1, by omega, rfl, by go_num, by (repeat' (first | (with_reducible exact Below.refl _ _) | (with_reducible assumption) | (with_reducible refine Below.alloc ?_ ?_ _) | (with_reducible refine Below.drew ?_) | (with_reducible refine below_drewN ?_ _) | (with_reducible refine Below.setCell ?_ ?_ _) | (with_reducible refine below_then ?_ ?_ (by with_reducible assumption)) | (with_reducible exact Nat.le_refl _) | go_size | (simp only [*]; done)))⟩
    · go_wp2_with fail
      go_ret
      exact ⟨rfl, hbel⟩

def itz (q : Nat) : Value := match q with
  | 5 => .bool false
  | _ => .int .i64 0
set_option maxHeartbeats 1000000 in
theorem toItemS_any (A : Option Addr) (n cap : Nat) (xs : List It) (w : World) (hn : xs.length = n) (hm : n ≤ 1048576) (hr : Row w w.heap.size 6 A n (itc xs)) :
    Calls Try.prog 25 #[.slice A n cap] w fun e w' => e = .returned (.slice (some ⟨w.heap.size, 0, none⟩) n n) ∧ OwnP w' w.heap.size 78 6 (some ⟨w.heap.size, 0, none⟩) n n (itc xs) ∧ Below w.heap.size w w' := by
  obtain ⟨i0, hi, hz0, hz1, hz2⟩ := info_parts item_info
  have hmk := make_n (P := Try.prog) 23 78 i0 _ Try.underlying23 hi hz0 n (by rw [hz2]; omega) (by omega)
  rw [hz1] at hmk
  have HN := Lib.hid hn; clear hn
  go_enter Try.func25, Try.ntmps25
  go_wp2_with fail
  go_loopg [4] n (fun k i wr => ∃ j : Nat, j ≤ n ∧ k = n - j ∧ i = .int .i64 j ∧ Hid (OwnP wr w.heap.size 78 6 (some ⟨w.heap.size, 0, none⟩) n n (fun i q => if i < j then itc xs i q else itz q)) ∧ Below w.heap.size w wr)
  case atStart => exact ⟨0, Nat.zero_le _, rfl, rfl, (OwnP.made w _ #[.int .i64 0, .int .i64 0, .int .i64 0, .int .i64 0, .int .i64 0, .bool false] n (by simp) (by unfold maxLen; omega)).congr (fun i q _ hq => by (have hq' : q < 6 := hq); simp; match q, hq' with | 0, _ => rfl | 1, _ => rfl | 2, _ => rfl | 3, _ => rfl | 4, _ => rfl | 5, _ => rfl), by (repeat' (first | (with_reducible exact Below.refl _ _) | (with_reducible assumption) | (with_reducible refine Below.alloc ?_ ?_ _) | (with_reducible refine Below.drew ?_) | (with_reducible refine below_drewN ?_ _) | (with_reducible refine Below.setCell ?_ ?_ _) | (with_reducible refine below_then ?_ ?_ (by with_reducible assumption)) | (with_reducible exact Nat.le_refl _) | go_size | (simp only [*]; done)))⟩
  case round =>
    obtain ⟨j, hj, hk, rfl, hown, hbel⟩ := hrel
    have HK := Lib.hid hk; clear hk
    have hsz := hbel.size
    have olt := hown.out.lt
    by_cases hlt : j < n
    · obtain ⟨b, off, rfl, hb, hc⟩ := hr (by omega)
      have c0 : wr.cell? ⟨b, off + j * 6, none⟩ = _ := (hbel.cell (p := ⟨b, off + j * 6, none⟩) hb).trans (hc j 0 hlt (by omega))
      have c1 : wr.cell? ⟨b, off + j * 6 + 1, none⟩ = _ := (hbel.cell (p := ⟨b, off + j * 6 + 1, none⟩) hb).trans (hc j 1 hlt (by omega))
      have c2 : wr.cell? ⟨b, off + j * 6 + 2, none⟩ = _ := (hbel.cell (p := ⟨b, off + j * 6 + 2, none⟩) hb).trans (hc j 2 hlt (by omega))
      have c3 : wr.cell? ⟨b, off + j * 6 + 3, none⟩ = _ := (hbel.cell (p := ⟨b, off + j * 6 + 3, none⟩) hb).trans (hc j 3 hlt (by omega))
      have c4 : wr.cell? ⟨b, off + j * 6 + 4, none⟩ = _ := (hbel.cell (p := ⟨b, off + j * 6 + 4, none⟩) hb).trans (hc j 4 hlt (by omega))
      have c5 : wr.cell? ⟨b, off + j * 6 + 5, none⟩ = _ := (hbel.cell (p := ⟨b, off + j * 6 + 5, none⟩) hb).trans (hc j 5 hlt (by omega))
      obtain ⟨x, hx⟩ : ∃ x, xs.getD j default = x := ⟨_, rfl⟩
      simp only [itc, itv, hx] at c0 c1 c2 c3 c4 c5
      have Hx := Lib.hid hx; clear hx hc
      have o0 : wr.cell? ⟨w.heap.size, j * 6, none⟩ = _ := hown.out.cell (q := 0) hlt (by omega)
      have o1 : wr.cell? ⟨w.heap.size, j * 6 + 1, none⟩ = _ := hown.out.cell (q := 1) hlt (by omega)
      have o2 : wr.cell? ⟨w.heap.size, j * 6 + 2, none⟩ = _ := hown.out.cell (q := 2) hlt (by omega)
      have o3 : wr.cell? ⟨w.heap.size, j * 6 + 3, none⟩ = _ := hown.out.cell (q := 3) hlt (by omega)
      have o4 : wr.cell? ⟨w.heap.size, j * 6 + 4, none⟩ = _ := hown.out.cell (q := 4) hlt (by omega)
      have o5 : wr.cell? ⟨w.heap.size, j * 6 + 5, none⟩ = _ := hown.out.cell (q := 5) hlt (by omega)
      have of0 := hown.out.frozen (j * 6)
      have of1 := hown.out.frozen (j * 6 + 1)
      have of2 := hown.out.frozen (j * 6 + 2)
      have of3 := hown.out.frozen (j * 6 + 3)
      have of4 := hown.out.frozen (j * 6 + 4)
      have of5 := hown.out.frozen (j * 6 + 5)
      simp only [Nat.lt_irrefl, if_false, itz] at o0 o1 o2 o3 o4 o5
      go_wp2_with fail
      ((with_reducible refine (toItem_any _ _ _ _ _ _ _).mono ?_); rintro e w1 ⟨rfl, hb1⟩)
      have hz1 := hb1.size
      have p0 := (hb1.cell (p := ⟨w.heap.size, j * 6, none⟩) olt).trans o0
      have p1 := (hb1.cell (p := ⟨w.heap.size, j * 6 + 1, none⟩) olt).trans o1
      have p2 := (hb1.cell (p := ⟨w.heap.size, j * 6 + 2, none⟩) olt).trans o2
      have p3 := (hb1.cell (p := ⟨w.heap.size, j * 6 + 3, none⟩) olt).trans o3
      have p4 := (hb1.cell (p := ⟨w.heap.size, j * 6 + 4, none⟩) olt).trans o4
      have p5 := (hb1.cell (p := ⟨w.heap.size, j * 6 + 5, none⟩) olt).trans o5
      have q0 := (hb1.frozen (p := ⟨w.heap.size, j * 6, none⟩) olt).trans of0
      have q1 := (hb1.frozen (p := ⟨w.heap.size, j * 6 + 1, none⟩) olt).trans of1
      have q2 := (hb1.frozen (p := ⟨w.heap.size, j * 6 + 2, none⟩) olt).trans of2
      have q3 := (hb1.frozen (p := ⟨w.heap.size, j * 6 + 3, none⟩) olt).trans of3
      have q4 := (hb1.frozen (p := ⟨w.heap.size, j * 6 + 4, none⟩) olt).trans of4
      have q5 := (hb1.frozen (p := ⟨w.heap.size, j * 6 + 5, none⟩) olt).trans of5
      go_wp2_with fail
      go_roundg (n - (j + 1))
      case measure => have := HK.out; omega
      case rel => exact ⟨j + 1, by omega, rfl, by go_num, ((((((((hown.out.then_ hb1).set0 hlt (by omega) _).set_ (q := 1) hlt (by omega) _).set_ (q := 2) hlt (by omega) _).set_ (q := 3) hlt (by omega) _).set_ (q := 4) hlt (by omega) _).set_ (q := 5) hlt (by omega) _)).congr (it_step Hx.out), by (repeat' (first | (with_reducible exact Below.refl _ _) | (with_reducible assumption) | (with_reducible refine Below.alloc ?_ ?_ _) | (with_reducible refine Below.drew ?_) | (with_reducible refine below_drewN ?_ _) | (with_reducible refine Below.setCell ?_ ?_ _) | (with_reducible refine below_then ?_ ?_ (by with_reducible assumption)) | (with_reducible exact Nat.le_refl _) | go_size | (simp only [*]; done)))⟩
    · go_wp2_with fail
      go_ret
      refine ⟨rfl, hown.out.congr fun i q hi _ => if_pos (by omega), by (repeat' (first | (with_reducible exact Below.refl _ _) | (with_reducible assumption) | (with_reducible refine Below.alloc ?_ ?_ _) | (with_reducible refine Below.drew ?_) | (with_reducible refine below_drewN ?_ _) | (with_reducible refine Below.setCell ?_ ?_ _) | (with_reducible refine below_then ?_ ?_ (by with_reducible assumption)) | (with_reducible exact Nat.le_refl _) | go_size | (simp only [*]; done)))⟩

/-- A row of the call's own, whatever it holds. -/
def OwnX (w : World) (base : Nat) (t : TypeId) (sz : Nat) (A : Option Addr) (n c : Nat) : Prop := ∃ f, OwnP w base t sz A n c f
theorem OwnX.then_ {w w' : World} {base : Nat} {t : TypeId} {sz : Nat} {A : Option Addr} {n c : Nat} (h : OwnX w base t sz A n c) (hb : Below w.heap.size w w') : OwnX w' base t sz A n c := h.imp fun _ h => h.then_ hb
theorem OwnX.apart {w w' : World} {base : Nat} {t : TypeId} {sz : Nat} {A B : Option Addr} {n c m d : Nat} (h : OwnX w base t sz A n c) (hg : w.grownBy w' (Value.ownBlock (.slice B m d))) (hb : ∀ x, A = some x → ∀ y, B = some y → x.block ≠ y.block) : OwnX w' base t sz A n c := h.imp fun _ h => h.apart hg hb
theorem OwnX.set_at {w : World} {base g sz n c i q o : Nat} {t : TypeId} (h : OwnX w base t sz (some ⟨g, 0, none⟩) n c) (hi : i < n) (hq : q < sz) (ho : o = i * sz + q) (u : Value) : OwnX (w.setCell ⟨g, o, none⟩ u) base t sz (some ⟨g, 0, none⟩) n c := h.elim fun _ h => ⟨_, h.set_at hi hq ho u⟩
theorem grown_set {w wr : World} {g : Nat} (h : w.grownBy wr (some g)) (o : Nat) (u : Value) : w.grownBy (wr.setCell ⟨g, o, none⟩ u) (some g) :=
  ⟨h.os, h.tape, h.output, by simpa [World.setCell] using h.size, fun i hi hne => (Below.heap_setCell _ _ _ i (fun e => hne (by rw [e]))).trans (h.block i hi hne)⟩
set_option maxHeartbeats 1000000 in
theorem markItemS_any (A : Option Addr) (n c base : Nat) (f : Nat → Nat → Value) (w : World) (hm : n ≤ 2097152) (h : OwnP w base 78 6 A n c f) :
    Calls Try.prog 31 #[.slice A n c, .int .i64 1] w fun e w' => e = .returned (.int .i64 (6 * (n : Int) + 1)) ∧ OwnX w' base 78 6 A n c ∧ w.grownBy w' (Value.ownBlock (.slice A n c)) := by
  rcases h.form with ⟨rfl, rfl, rfl⟩ | ⟨g, rfl, hbg, hgl⟩
  · go_enter Try.func31, Try.ntmps31
    go_wp2_with fail
    go_loopg [1, 5] 0 (fun k r i wr => i = .int .i64 0 ∧ r = .int .i64 1 ∧ w.grownBy wr (Value.ownBlock (.slice none 0 0)))
    case atStart => exact ⟨rfl, rfl, rfl, rfl, rfl, Nat.le_refl _, fun _ _ _ => rfl⟩
    case round =>
      obtain ⟨rfl, rfl, hg⟩ := hrel
      go_wp2_with fail
      go_ret
      exact ⟨rfl, ⟨_, h.kept hg (.inl rfl)⟩, hg⟩
  · have HP := Lib.hid h
    clear h
    go_enter Try.func31, Try.ntmps31
    go_wp2_with fail
    go_loopg [1, 5] n (fun k r i wr => ∃ j : Nat, j ≤ n ∧ k = n - j ∧ i = .int .i64 j ∧ r = .int .i64 (6 * (j : Int) + 1) ∧ Hid (∃ f, OwnP wr base 78 6 (some ⟨g, 0, none⟩) n c f) ∧ w.grownBy wr (some g))
    case atStart => exact ⟨0, Nat.zero_le _, rfl, rfl, by go_num, ⟨_, HP.out⟩, rfl, rfl, rfl, Nat.le_refl _, fun _ _ _ => rfl⟩
    case round =>
      obtain ⟨j, hj, hk, rfl, rfl, hown, hbel⟩ := hrel
      have HK := Lib.hid hk; clear hk
      have hsz := hbel.size
      obtain ⟨f', hown⟩ := hown.out
      have HOW := Lib.hid hown; clear hown
      by_cases hlt : j < n
      · skip
        have o0 : wr.cell? ⟨g, j * 6, none⟩ = _ := HOW.out.cell (q := 0) hlt (by omega)
        have o1 : wr.cell? ⟨g, j * 6 + 1, none⟩ = _ := HOW.out.cell (q := 1) hlt (by omega)
        have o2 : wr.cell? ⟨g, j * 6 + 2, none⟩ = _ := HOW.out.cell (q := 2) hlt (by omega)
        have o3 : wr.cell? ⟨g, j * 6 + 3, none⟩ = _ := HOW.out.cell (q := 3) hlt (by omega)
        have o4 : wr.cell? ⟨g, j * 6 + 4, none⟩ = _ := HOW.out.cell (q := 4) hlt (by omega)
        have o5 : wr.cell? ⟨g, j * 6 + 5, none⟩ = _ := HOW.out.cell (q := 5) hlt (by omega)
        have of0 := HOW.out.frozen (j * 6)
        have of1 := HOW.out.frozen (j * 6 + 1)
        have of2 := HOW.out.frozen (j * 6 + 2)
        have of3 := HOW.out.frozen (j * 6 + 3)
        have of4 := HOW.out.frozen (j * 6 + 4)
        have of5 := HOW.out.frozen (j * 6 + 5)
        go_wp2_with fail
        go_roundg (n - (j + 1))
        case measure => have := HK.out; omega
        case rel =>
          have h0 : OwnX wr base 78 6 (some ⟨g, 0, none⟩) n c := ⟨_, HOW.out⟩
          clear HOW o0 o1 o2 o3 o4 o5 of0 of1 of2 of3 of4 of5
          refine ⟨j + 1, by omega, rfl, by go_num, by go_num, ?_, ?_⟩
          · refine OwnX.set_at (i := j) (q := 5) ?_ hlt (by omega) (by omega) _
            refine OwnX.set_at (i := j) (q := 4) ?_ hlt (by omega) (by omega) _
            refine OwnX.set_at (i := j) (q := 3) ?_ hlt (by omega) (by omega) _
            refine OwnX.set_at (i := j) (q := 2) ?_ hlt (by omega) (by omega) _
            refine OwnX.set_at (i := j) (q := 1) ?_ hlt (by omega) (by omega) _
            exact OwnX.set_at (i := j) (q := 0) h0 hlt (by omega) (by omega) _
          · exact grown_set (grown_set (grown_set (grown_set (grown_set (grown_set hbel _ _) _ _) _ _) _ _) _ _) _ _
      · have ej : j = n := by omega
        subst ej
        go_wp2_with fail
        go_ret
        exact ⟨rfl, ⟨_, HOW.out⟩, hbel⟩
end Go.Proofs.Ytkmipgekmbngcaa
