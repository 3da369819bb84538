/- The generators anyTable, DrawValidTable and DrawColumnWidths: they return some table, in memory of their own. Conditions: the reader has yielded fewer than 2^47 numbers; one to five columns; the code is a slice of bytes. -/
import Derived.Test.YtbkhimdebpllcaaTabsDraw
import Derived.Deep.RegionHeld3
namespace Go.Proofs.Ytbkhimdebpllcaa
open Go.RowKit

/-- What a call leaves that draws a table. -/
def DrawnTab (w : World) (rb p K : Nat) (e : Ending) (w' : World) : Prop :=
  ∃ (g n c : Nat) (rs : List (List Cl)) (p' : Nat), e = .returned (.slice (some ⟨g, 0, none⟩) n c) ∧ n ≤ 4 ∧ (n ≤ c ∧ c ≤ maxLen) ∧ TabR w' w.heap.size (some ⟨g, 0, none⟩) n rs ∧ p' ≤ p + K ∧ Rd w' rb p' ∧ w.grownBy w' (some rb)
theorem turn_s {r : List Cl} {n : Nat} {x : Cl} (hn : r.length = n) (h0 : 0 < n) (hx : r.getD 0 default = x) (v : Int) : ∀ i q, i < n → q < 2 → (if i = 0 ∧ q = 0 then .int .i64 v else clc r i q) = clc (r.set 0 { x with s := v }) i q := by
  intro i q hi hq
  by_cases e : i = 0
  · subst e
    match q, hq with
    | 0, _ => simp [clc, hn, h0]
    | 1, _ => simp only [clc, hx]; simp [hn, h0]
  · have e2 : (r.set 0 { x with s := v })[i]? = r[i]? := List.getElem?_set_ne (by omega)
    rw [if_neg (by omega)]
    match q, hq with
    | 0, _ => simp [clc, e2, List.getD_eq_getElem?_getD]
    | 1, _ => simp [clc, e2, List.getD_eq_getElem?_getD]
theorem turn_w {r : List Cl} {n : Nat} {x : Cl} (hn : r.length = n) (h0 : 0 < n) (hx : r.getD 0 default = x) (v : Int) : ∀ i q, i < n → q < 2 → (if i = 0 ∧ q = 1 then .int .i64 v else clc r i q) = clc (r.set 0 { x with w := v }) i q := by
  intro i q hi hq
  by_cases e : i = 0
  · subst e
    match q, hq with
    | 0, _ => simp only [clc, hx]; simp [hn, h0]
    | 1, _ => simp [clc, hn, h0]
  · have e2 : (r.set 0 { x with w := v })[i]? = r[i]? := List.getElem?_set_ne (by omega)
    rw [if_neg (by omega)]
    match q, hq with
    | 0, _ => simp [clc, e2, List.getD_eq_getElem?_getD]
    | 1, _ => simp [clc, e2, List.getD_eq_getElem?_getD]

theorem TabOwn.drew {w : World} {base n c : Nat} {A : Option Addr} {rs : List (List Cl)} {G : Nat → Option Addr} {cp : Nat → Nat} (h : TabOwn w base A n c rs G cp) : TabOwn w.drew base A n c rs G cp := h
/-- The cells of the first row's head. -/
theorem TabOwn.first {w : World} {base g g0 n c l d : Nat} {rs : List (List Cl)} {G : Nat → Option Addr} {cp : Nat → Nat} (h : TabOwn w base (some ⟨g, 0, none⟩) n c rs G cp) (h0 : 0 < n) (hG : G 0 = some ⟨g0, 0, none⟩) (hl : (rl rs 0).length = l) (hd : cp 0 = d) (hp : 0 < l) :
    w.cell? ⟨g, 0, none⟩ = some (.slice (some ⟨g0, 0, none⟩) l d) ∧ w.frozen? ⟨g, 0, none⟩ = false ∧ w.cell? ⟨g0, 0, none⟩ = some (clc (rl rs 0) 0 0) ∧ w.cell? ⟨g0, 1, none⟩ = some (clc (rl rs 0) 0 1) ∧ w.frozen? ⟨g0, 0, none⟩ = false ∧ w.frozen? ⟨g0, 1, none⟩ = false ∧ g < w.heap.size ∧ g0 < w.heap.size ∧ l ≤ d ∧ d ≤ maxLen ∧ base ≤ g0 ∧ base ≤ g := by
  have c0 := h.2.1.cell1 (i := 0) h0
  have o0 := h.2.2.1 0 h0
  simp only [hG, hl, hd] at c0 o0
  have k0 := o0.cell (i := 0) (q := 0) hp (by omega)
  have k1 := o0.cell (i := 0) (q := 1) hp (by omega)
  simp only [Nat.zero_mul, Nat.zero_add] at k0 k1
  exact ⟨c0, h.2.1.frozen 0, k0, k1, o0.frozen 0, o0.frozen 1, (h.2.1.blk _ rfl).2, (o0.blk _ rfl).2, o0.cap.1, o0.cap.2, (o0.blk _ rfl).1, (h.2.1.blk _ rfl).1⟩

set_option maxRecDepth 100000 in
set_option maxHeartbeats 4000000 in
theorem anyTable_any (rb p m : Nat) (w : World) (h : Rd w rb p) (hp : p ≤ 70368744177664) (hm1 : 1 ≤ m) (hm5 : m ≤ 5) : Calls Try.prog 49 #[.pointer (some ⟨rb, 0, none⟩), .int .i64 (m : Int)] w (fun e w' => DrawnTab w rb p 90 e w') := by
  have hlt := h.lt
  go_enter Try.func49, Try.ntmps49
  go_wp2_with fail
  ((with_reducible refine (randomTable_any rb p m _ h (by omega) hm1 hm5).mono ?_); rintro e w1 ⟨g, n, c, rs, G, cp, p1, rfl, hn, hT1, hpos, hp1, hr1, hO1⟩)
  have hgb := (hT1.2.1.blk ⟨g, 0, none⟩ rfl).1
  have hcap := hT1.2.1.cap
  have hs1 := hO1.size
  by_cases h0 : n = 0
  · subst h0
    go_wp2_with fail
    go_ret
    exact ⟨g, 0, c, rs, p1, rfl, by omega, hcap, hT1.r, by omega, hr1, hO1⟩
  have hn0 : 0 < n := by omega
  have hn0' : (0 : Int) < (n : Int) := by omega
  clear h0
  have hp0 := hpos 0 hn0
  obtain ⟨g0, hG0, hg0b⟩ : ∃ g0, G 0 = some ⟨g0, 0, none⟩ ∧ w.heap.size ≤ g0 := by
    rcases (hT1.2.2.1 0 hn0).form with ⟨h1, h2, _⟩ | ⟨g0, h1, h2, _⟩
    · omega
    · exact ⟨g0, h1, h2⟩
  have hne : g0 ≠ g := fun e => hT1.2.2.2.1 0 hn0 _ hG0 _ rfl e
  go_wp2_with fail
  ((with_reducible refine (pick_z _ _ _ 14 _ hr1 (by omega) (by omega) (by omega)).mono ?_); rintro e w2 ⟨x, rfl, hx, hr2, ho2⟩)
  have hT2 := hT1.only ho2 hlt
  have hO2 := only_trans hO1 ho2
  have hs2 := hO2.size
  clear hT1
  obtain ⟨l, hl⟩ : ∃ l, (rl rs 0).length = l := ⟨_, rfl⟩
  obtain ⟨d, hd⟩ : ∃ d, cp 0 = d := ⟨_, rfl⟩
  rw [hl] at hp0
  have hlt0 : (0 : Int) < (l : Int) := by omega
  obtain ⟨c0, fz, k0, k1, z0, z1, hgl, hg0l, hld, hdm, _, _⟩ := hT2.first hn0 hG0 hl hd hp0
  obtain ⟨y, hy⟩ : ∃ y, (rl rs 0).getD 0 default = y := ⟨_, rfl⟩
  have HT2 := Lib.hid hT2
  have HL := Lib.hid hl
  have HD := Lib.hid hd
  have HY := Lib.hid hy
  have HG0 := Lib.hid hG0
  have HNE := Lib.hid hne
  clear hl hd hy hT2 hpos hG0
  by_cases x0 : x = 0
  · subst x0
    go_wp2_with fail
    go_region_held3 (fun w' => w'.cell? ⟨g, 0, none⟩ = some (.slice (some ⟨g0, 0, none⟩) l d))
      (first | exact c0 | exact e0 | exact (World.cell?_of_block (Below.heap_alloc w2 _ _ hgl)).trans c0 | exact (World.cell?_of_block (Below.heap_setCell _ _ _ _ (fun e => HNE.out e.symm))).trans e0)
      (first | (go_at_call 43; refine (one_any rb _ w2.heap.size 3 3 (fun i => [0, 2, 9].getD i 0) _ ((hr2.alloc _).drew) (by omega) (by omega) (by omega) (by omega) (lit_cells [0, 2, 9] (Blk.new w2 3 _).drew rfl)).mono ?_; rintro e w4 ⟨v, _, rfl, hr4, ho4⟩; have hT4 := (HT2.out.alloc (.cells #[.int .i64 0, .int .i64 2, .int .i64 9] 3)).drew.only ho4 hlt; obtain ⟨e0, e1, e2, e3, e4, e5, e6, e7, _⟩ := hT4.first hn0 HG0.out HL.out HD.out hp0; have HT4 := Lib.hid hT4; have hO4 := only_trans (only_drew (only_alloc hO2 (.cells #[.int .i64 0, .int .i64 2, .int .i64 9] 3))) ho4; clear hT4))
    go_wp2_with fail
    go_ret
    exact ⟨g, n, c, _, _, rfl, hn, hcap, HT4.out.turn (q := 0) hn0 HG0.out (by rw [List.length_set]) (by rw [HL.out]; exact hp0) (by omega) (turn_s rfl (by rw [HL.out]; exact hp0) HY.out v), by omega, hr4.setCell (by simp; omega) _, only_setCell hO4 (by right; simpa using hg0b) _⟩
  by_cases x1 : x = 1
  · subst x1
    go_wp2_with fail
    go_region_held3 (fun w' => w'.cell? ⟨g, 0, none⟩ = some (.slice (some ⟨g0, 0, none⟩) l d))
      (first | exact c0 | exact e0 | exact (World.cell?_of_block (Below.heap_alloc w2 _ _ hgl)).trans c0 | exact (World.cell?_of_block (Below.heap_setCell _ _ _ _ (fun e => HNE.out e.symm))).trans e0)
      (first | (go_at_call 43; refine (one_any rb _ w2.heap.size 2 2 (fun i => [-1, 1001].getD i 0) _ ((hr2.alloc _).drew) (by omega) (by omega) (by omega) (by omega) (lit_cells [-1, 1001] (Blk.new w2 3 _).drew rfl)).mono ?_; rintro e w4 ⟨v, _, rfl, hr4, ho4⟩; have hT4 := (HT2.out.alloc (.cells #[.int .i64 (-1), .int .i64 1001] 3)).drew.only ho4 hlt; obtain ⟨e0, e1, e2, e3, e4, e5, e6, e7, _⟩ := hT4.first hn0 HG0.out HL.out HD.out hp0; have HT4 := Lib.hid hT4; have hO4 := only_trans (only_drew (only_alloc hO2 (.cells #[.int .i64 (-1), .int .i64 1001] 3))) ho4; clear hT4))
    go_wp2_with fail
    go_ret
    exact ⟨g, n, c, _, _, rfl, hn, hcap, HT4.out.turn (q := 1) hn0 HG0.out (by rw [List.length_set]) (by rw [HL.out]; exact hp0) (by omega) (turn_w rfl (by rw [HL.out]; exact hp0) HY.out v), by omega, hr4.setCell (by simp; omega) _, only_setCell hO4 (by right; simpa using hg0b) _⟩
  by_cases x2 : x = 2
  · subst x2
    have hl1 : (1 : Int) ≤ (l : Int) := by omega
    have hd1 : (l : Int) ≤ (d : Int) := by omega
    go_wp2_with fail
    · go_ret
      have h1 := HT2.out.tail (o := 0) (d := 0) hn0 HG0.out (by rw [HL.out]; exact hp0) (by rw [HL.out]; omega)
      rw [HL.out] at h1
      exact ⟨g, n, c, _, _, rfl, hn, hcap, h1, by omega, hr2.setCell (by simp; omega) _, only_setCell hO2 (by right; simpa using hgb) _⟩
    · go_ret
      have h1 := HT2.out.tail (o := 2) (d := d - 1) hn0 HG0.out (by rw [HL.out]; exact hp0) (fun _ => rfl)
      rw [HL.out] at h1
      exact ⟨g, n, c, _, _, rfl, hn, hcap, h1, by omega, hr2.setCell (by simp; omega) _, only_setCell hO2 (by right; simpa using hgb) _⟩
  have z0' : ((x : Int) == 0) = false := by simp; omega
  have z1' : ((x : Int) == 1) = false := by simp; omega
  have z2' : ((x : Int) == 2) = false := by simp; omega
  go_wp2_with fail
  go_ret
  exact ⟨g, n, c, rs, _, rfl, hn, hcap, HT2.out.r, by omega, hr2, hO2⟩

/-- What the generators of a table and a number of columns leave. -/
def TabOut (w : World) (e : Ending) (w' : World) : Prop :=
  ∃ (g n c : Nat) (rs : List (List Cl)) (t : Int), e = .returned (.tuple #[.slice (some ⟨g, 0, none⟩) n c, .int .i64 t]) ∧ n ≤ 4 ∧ (n ≤ c ∧ c ≤ maxLen) ∧ TabR w' w.heap.size (some ⟨g, 0, none⟩) n rs ∧ Below w.heap.size w w'

set_option maxRecDepth 100000 in
set_option maxHeartbeats 4000000 in
theorem DrawValidTable_any (A : Option Addr) (n cap : Nat) (cs : List Int) (w : World) (hc : Code w A n cap cs) :
    Calls Try.prog 44 #[.slice A n cap] w (TabOut w) := by
  obtain ⟨h1, h2, h3, h4, h5⟩ := hc
  have HH := Lib.hid h4; clear h4
  go_enter Try.func44, Try.ntmps44
  go_wp2_with fail
  ((with_reducible refine (newReader_any _ _ _ cs _ h1 h2 h3 HH.out h5).mono ?_); rintro e w1 ⟨rfl, hr1, hb1⟩)
  have hs1 := hb1.size
  have hl1 := hr1.lt
  go_wp2_with fail
  ((with_reducible refine (pick_z _ _ _ 5 _ hr1 (by omega) (by omega) (by omega)).mono ?_); rintro e w2 ⟨m, rfl, hm, hr2, ho2⟩)
  have hO2 := ho2
  have hs2 := hO2.size
  clear ho2
  go_wp2_with fail
  rw [show (1 : Int) + (m : Int) = ((1 + m : Nat) : Int) by omega]
  ((with_reducible refine (anyTable_any _ _ (1 + m) _ hr2 (by omega) (by omega) (by omega)).mono ?_); rintro e w3 ⟨g, q, c, rs, p3, rfl, hq, hqc, hT3, hp3, hr3, ho3⟩)
  have hO3 := only_trans hO2 ho3
  have hs3 := hO3.size
  clear ho3
  have hm4 : (m : Int) ≤ 4 := by omega
  go_wp2_with fail
  have v0 : IntKind.i64.wrap ((1 + m : Nat) : Int) = ((1 + m : Nat) : Int) := IntWalk.i64_in _ (by omega)
  ((with_reducible refine (one_any _ _ w3.heap.size 6 6 (fun i => [((1 + m : Nat) : Int), ((1 + m : Nat) : Int), ((1 + m : Nat) : Int), ((1 + m : Nat) : Int), 0, 9].getD i 0) _ (hr3.alloc _) (by omega) (by omega) (by omega) (by omega) (lit_cells [((1 + m : Nat) : Int), ((1 + m : Nat) : Int), ((1 + m : Nat) : Int), ((1 + m : Nat) : Int), 0, 9] (Blk.new _ _ _) rfl)).mono ?_); rintro e w4 ⟨v, _, rfl, hr4, ho4⟩)
  have hT4 := (hT3.alloc (.cells #[.int .i64 ((1 + m : Nat) : Int), .int .i64 ((1 + m : Nat) : Int), .int .i64 ((1 + m : Nat) : Int), .int .i64 ((1 + m : Nat) : Int), .int .i64 0, .int .i64 9] 3)).only ho4 (by omega)
  have hO4 := only_trans (only_alloc hO3 (.cells #[.int .i64 ((1 + m : Nat) : Int), .int .i64 ((1 + m : Nat) : Int), .int .i64 ((1 + m : Nat) : Int), .int .i64 ((1 + m : Nat) : Int), .int .i64 0, .int .i64 9] 3)) ho4
  have hb4 : Below w.heap.size w w4 := hb1.trans (below_of_only hO4 (Nat.le_refl _) hs1)
  have HT4 := Lib.hid (hT4.mono (base' := w.heap.size) (by omega))
  clear hT4
  go_wp2_with fail
  go_ret2
  exact ⟨g, q, c, rs, v, rfl, hq, hqc, HT4.out, hb4⟩
theorem DrawColumnWidths_any (A : Option Addr) (n cap : Nat) (cs : List Int) (w : World) (hc : Code w A n cap cs) :
    Calls Try.prog 26 #[.slice A n cap] w (TabOut w) := by
  go_enter Try.func26, Try.ntmps26
  go_wp2_with fail
  ((with_reducible refine (DrawValidTable_any _ _ _ cs _ hc).mono ?_); rintro e w1 ⟨g, q, c, rs, v, rfl, hq, hqc, hT, hb⟩)
  go_wp2_with fail
  go_ret2
  exact ⟨g, q, c, rs, v, rfl, hq, hqc, hT, hb⟩
end Go.Proofs.Ytbkhimdebpllcaa
