/- The generators of the arguments of the box laws return some arguments, in memory of their own. Conditions: the code is a slice of bytes. -/
import Derived.Test.YtdbjjfjagalhbaaBoxDraw
import Derived.Deep.RegionWith
namespace Go.Proofs.Ytdbjjfjagalhbaa
open Go.RowKit

def BoxesOut (w : World) (e : Ending) (w' : World) : Prop :=
  ∃ (A : Option Addr) (n c : Nat) (xs : List Bx), e = .returned (.slice A n c) ∧ xs.length = n ∧ n ≤ 21 ∧ (n ≤ c ∧ c ≤ maxLen ∧ ∃ g, A = some ⟨g, 0, none⟩) ∧ Row w' w'.heap.size 3 A n (bxc xs) ∧ Below w.heap.size w w'

theorem DrawRowBox_any (A : Option Addr) (n cap : Nat) (cs : List Int) (w : World) (hc : Code w A n cap cs) :
    Calls Try.prog 30 #[.slice A n cap] w (BoxesOut w) := by
  obtain ⟨h1, h2, h3, h4, h5⟩ := hc
  have HH := Lib.hid h4; clear h4
  go_enter Try.func30, Try.ntmps30
  go_wp2_with fail
  ((with_reducible refine (newReader_any _ _ _ cs _ h1 h2 h3 HH.out h5).mono ?_); rintro e w1 ⟨rfl, hr1, hb1⟩)
  go_wp2_with fail
  ((with_reducible refine (anyBoxes_any _ _ _ hr1 (by omega)).mono ?_); rintro e w2 ⟨B, m, c, xs, p', rfl, hx, hm, hcp, hrow, hA, hp, hr2, ho2⟩)
  have HX := Lib.hid hx; clear hx
  have hb2 := hb1.trans (below_of_only ho2 (Nat.le_refl _) hb1.size)
  go_wp2
  go_ret
  exact ⟨B, m, c, xs, rfl, HX.out, hm, hcp, hrow, hb2⟩

def BoxesIntOut (w : World) (e : Ending) (w' : World) : Prop :=
  ∃ (A : Option Addr) (n c : Nat) (xs : List Bx) (s : Int), e = .returned (.tuple #[.slice A n c, .int .i64 s]) ∧ xs.length = n ∧ n ≤ 21 ∧ (n ≤ c ∧ c ≤ maxLen ∧ ∃ g, A = some ⟨g, 0, none⟩) ∧ Row w' w'.heap.size 3 A n (bxc xs) ∧ Below w.heap.size w w'

theorem DrawStackBox_any (A : Option Addr) (n cap : Nat) (cs : List Int) (w : World) (hc : Code w A n cap cs) :
    Calls Try.prog 33 #[.slice A n cap] w (BoxesIntOut w) := by
  obtain ⟨h1, h2, h3, h4, h5⟩ := hc
  have HH := Lib.hid h4; clear h4
  go_enter Try.func33, Try.ntmps33
  go_wp2_with fail
  ((with_reducible refine (newReader_any _ _ _ cs _ h1 h2 h3 HH.out h5).mono ?_); rintro e w1 ⟨rfl, hr1, hb1⟩)
  go_wp2_with fail
  ((with_reducible refine (anyBoxes_any _ _ _ hr1 (by omega)).mono ?_); rintro e w2 ⟨B, m, c, xs, p', rfl, hx, hm, hcp, hrow, hA, hp, hr2, ho2⟩)
  have HX := Lib.hid hx; clear hx
  have hb2 := hb1.trans (below_of_only ho2 (Nat.le_refl _) hb1.size)
  have hs2 := hb2.size
  have hlt := hr2.lt
  go_wp2_with fail
  ((with_reducible refine (one_any w.heap.size _ w2.heap.size 6 6 (fun i => [0, 10, 14, 30, 10000, -1].getD i 0) _ (hr2.alloc _) (by omega) (by omega) (by omega) (by omega) (lit_cells [0, 10, 14, 30, 10000, -1] (Blk.new _ _ _) rfl)).mono ?_); rintro e w3 ⟨v, _, rfl, hr3, ho3⟩)
  have hb3 : Below w.heap.size w w3 := (hb2.alloc (by omega) _).trans (below_of_only ho3 (Nat.le_refl _) (by simp; omega))
  have hrow3 : Row w3 (w2.alloc (.cells #[.int .i64 0, .int .i64 10, .int .i64 14, .int .i64 30, .int .i64 10000, .int .i64 (-1)] 3)).heap.size 3 B m (bxc xs) := by
    have := (hrow.alloc' (.cells #[.int .i64 0, .int .i64 10, .int .i64 14, .int .i64 30, .int .i64 10000, .int .i64 (-1)] 3)).only ho3 hA (Nat.le_refl _)
    exact this
  go_wp2
  go_ret2
  exact ⟨B, m, c, xs, v, rfl, HX.out, hm, hcp, hrow3.more ho3.size, hb3⟩

def BoxIntOut (w : World) (e : Ending) (w' : World) : Prop :=
  ∃ a b c s : Int, e = .returned (.tuple #[.agg #[.int .i64 a, .int .i64 b, .int .i64 c], .int .i64 s]) ∧ Below w.heap.size w w'

theorem DrawRaiseBox_any (A : Option Addr) (n cap : Nat) (cs : List Int) (w : World) (hc : Code w A n cap cs) :
    Calls Try.prog 24 #[.slice A n cap] w (BoxIntOut w) := by
  obtain ⟨h1, h2, h3, h4, h5⟩ := hc
  have HH := Lib.hid h4; clear h4
  go_enter Try.func24, Try.ntmps24
  go_wp2_with fail
  ((with_reducible refine (newReader_any _ _ _ cs _ h1 h2 h3 HH.out (h5.alloc' _)).mono ?_); rintro e w1 ⟨rfl, hr1, hb1⟩)
  have hR1 := (Blk.new w 25 #[.int .i64 0, .int .i64 0, .int .i64 0]).then_ hb1
  have hz1 := hb1.size
  simp only [World.size_alloc] at hz1 hr1
  go_wp2_with fail
  ((with_reducible refine (anyBox_any _ _ _ hr1 (by omega)).mono ?_); rintro e w2 ⟨a, b, c, p', rfl, hp, hr2, ho2⟩)
  have hR2 := hR1.grown ho2 (by simp)
  have hb2 : Below w.heap.size w w2 := (below_then (Nat.le_refl _) (by (repeat' (first | (with_reducible exact Below.refl _ _) | (with_reducible assumption) | (with_reducible refine Below.alloc ?_ ?_ _) | (with_reducible refine Below.drew ?_) | (with_reducible refine below_drewN ?_ _) | (with_reducible refine Below.setCell ?_ ?_ _) | (with_reducible refine below_then ?_ ?_ (by with_reducible assumption)) | (with_reducible exact Nat.le_refl _) | go_size | (simp only [*]; done)))) hb1).trans (below_of_only ho2 (by omega) (by omega))
  have hz2 := ho2.size
  have hlt := hr2.lt
  clear hR1
  go_wp2_with fail
  have hD := (Blk.new w2 25 #[.int .i64 a, .int .i64 b, .int .i64 c])
  have hR := hR2.alloc (.cells #[.int .i64 a, .int .i64 b, .int .i64 c] 25)
  have HD := Lib.hid hD
  have HR := Lib.hid hR
  have HRd := Lib.hid (hr2.alloc (.cells #[.int .i64 a, .int .i64 b, .int .i64 c] 25))
  have hb2' : Below w.heap.size w (w2.alloc (.cells #[.int .i64 a, .int .i64 b, .int .i64 c] 25)) := by (repeat' (first | (with_reducible exact Below.refl _ _) | (with_reducible assumption) | (with_reducible refine Below.alloc ?_ ?_ _) | (with_reducible refine Below.drew ?_) | (with_reducible refine below_drewN ?_ _) | (with_reducible refine Below.setCell ?_ ?_ _) | (with_reducible refine below_then ?_ ?_ (by with_reducible assumption)) | (with_reducible exact Nat.le_refl _) | go_size | (simp only [*]; done)))
  clear hR2 hr2 hD hR
  go_region_with (go_at_call 42; refine (one_any (w.heap.size + 1) _ (w2.heap.size + 1) 7 7 (fun i => [0, 3, -3, 8, -20, 10000, -10001].getD i 0) _ (HRd.out.drew.alloc _) (by omega) (by omega) (by omega) (by omega) (lit_cells [0, 3, -3, 8, -20, 10000, -10001] (Blk.new_at _ _ _ _ (by simp)) rfl)).mono ?_; rintro e w3 ⟨v, _, rfl, hr3, ho3⟩; have hR3 := ((HR.out.drew.alloc _).grown ho3 (by simp)); have hD3 := ((HD.out.drew.alloc _).grown ho3 (by simp; omega)); (have tlt := hR3.lt; have tc0 := hR3.cell 0; have tf0 := hR3.frozen 0; have tc1 := hR3.cell 1; have tf1 := hR3.frozen 1; have tc2 := hR3.cell 2; have tf2 := hR3.frozen 2; simp only [List.getElem?_toArray, List.getElem?_cons_zero, List.getElem?_cons_succ] at tc0 tc1 tc2); (have ult := hD3.lt; have uc0 := hD3.cell 0; have uf0 := hD3.frozen 0; have uc1 := hD3.cell 1; have uf1 := hD3.frozen 1; have uc2 := hD3.cell 2; have uf2 := hD3.frozen 2; simp only [List.getElem?_toArray, List.getElem?_cons_zero, List.getElem?_cons_succ] at uc0 uc1 uc2))
  all_goals
    go_wp2
    (first | go_returns | (refine bodyPost_ret (by simp [results, Try.results24, go_sem, *]; try rfl) rfl ?_))
    refine ⟨a, b, c, v, rfl, ?_⟩
    have hb3 : Below w.heap.size w w3 := (Below.alloc hb2'.drew (by simp; omega) _).trans (below_of_only ho3 (by omega) (by simp; omega))
    (repeat' (first | (with_reducible exact Below.refl _ _) | (with_reducible assumption) | (with_reducible refine Below.alloc ?_ ?_ _) | (with_reducible refine Below.drew ?_) | (with_reducible refine below_drewN ?_ _) | (with_reducible refine Below.setCell ?_ ?_ _) | (with_reducible refine below_then ?_ ?_ (by with_reducible assumption)) | (with_reducible exact Nat.le_refl _) | go_size | (simp only [*]; done)))

def TwoBoxOut (w : World) (e : Ending) (w' : World) : Prop :=
  ∃ a b c x y z s : Int, e = .returned (.tuple #[.agg #[.int .i64 a, .int .i64 b, .int .i64 c], .agg #[.int .i64 x, .int .i64 y, .int .i64 z], .int .i64 s]) ∧ Below w.heap.size w w'

set_option maxHeartbeats 4000000 in
theorem DrawInterline_any (A : Option Addr) (n cap : Nat) (cs : List Int) (w : World) (hc : Code w A n cap cs) :
    Calls Try.prog 23 #[.slice A n cap] w (TwoBoxOut w) := by
  obtain ⟨h1, h2, h3, h4, h5⟩ := hc
  have HH := Lib.hid h4; clear h4
  go_enter Try.func23, Try.ntmps23
  go_wp2_with fail
  ((with_reducible refine (newReader_any _ _ _ cs _ h1 h2 h3 HH.out ((h5.alloc' _).alloc' _)).mono ?_); rintro e w1 ⟨rfl, hr1, hb1⟩)
  have hR1 := ((Blk.new w 25 #[.int .i64 0, .int .i64 0, .int .i64 0]).alloc (.cells #[.int .i64 0, .int .i64 0, .int .i64 0] 25)).then_ hb1
  have hS1 := (Blk.new_at (w.alloc (.cells #[.int .i64 0, .int .i64 0, .int .i64 0] 25)) 25 #[.int .i64 0, .int .i64 0, .int .i64 0] (w.heap.size + 1) (by first | (simp; done) | (simp; omega))).then_ hb1
  have hz1 := hb1.size
  simp only [World.size_alloc] at hz1 hr1
  have hB1 : Below w.heap.size w w1 := below_then (Nat.le_refl _) (by (repeat' (first | (with_reducible exact Below.refl _ _) | (with_reducible assumption) | (with_reducible refine Below.alloc ?_ ?_ _) | (with_reducible refine Below.drew ?_) | (with_reducible refine below_drewN ?_ _) | (with_reducible refine Below.setCell ?_ ?_ _) | (with_reducible refine below_then ?_ ?_ (by with_reducible assumption)) | (with_reducible exact Nat.le_refl _) | go_size | (simp only [*]; done)))) hb1
  clear hb1
  go_wp2_with fail
  ((with_reducible refine (anyBox_any _ _ _ hr1 (by omega)).mono ?_); rintro e w2 ⟨a, b, c, p', rfl, hp, hr2, ho2⟩)
  have hR2 := hR1.grown ho2 (by first | (simp; done) | (simp; omega))
  have hS2 := hS1.grown ho2 (by first | (simp; done) | (simp; omega))
  have hB2 : Below w.heap.size w w2 := hB1.trans (below_of_only ho2 (by omega) (by omega))
  have hz2 := ho2.size
  have hlt2 := hr2.lt
  clear hR1 hS1 hB1 ho2
  go_wp2_with fail
  ((with_reducible refine (anyBox_any _ _ _ (hr2.alloc _) (by omega)).mono ?_); rintro e w3 ⟨x, y, z, p3, rfl, hp3, hr3, ho3⟩)
  have hR3 := (hR2.alloc (.cells #[.int .i64 a, .int .i64 b, .int .i64 c] 25)).grown ho3 (by first | (simp; done) | (simp; omega))
  have hS3 := (hS2.alloc (.cells #[.int .i64 a, .int .i64 b, .int .i64 c] 25)).grown ho3 (by first | (simp; done) | (simp; omega))
  have hP3 := (Blk.new w2 25 #[.int .i64 a, .int .i64 b, .int .i64 c]).grown ho3 (by first | (simp; done) | (simp; omega))
  have hB3 : Below w.heap.size w w3 := (Below.alloc hB2 (by omega) _).trans (below_of_only ho3 (by omega) (by first | (simp; done) | (simp; omega)))
  have hz3 := ho3.size
  have hlt3 := hr3.lt
  simp only [World.size_alloc] at hz3
  clear hR2 hS2 hB2 ho3 hr1 hr2
  go_wp2_with fail
  have HD := Lib.hid (Blk.new w3 25 #[.int .i64 x, .int .i64 y, .int .i64 z])
  have HR := Lib.hid (hR3.alloc (.cells #[.int .i64 x, .int .i64 y, .int .i64 z] 25))
  have HS := Lib.hid (hS3.alloc (.cells #[.int .i64 x, .int .i64 y, .int .i64 z] 25))
  have HP := Lib.hid (hP3.alloc (.cells #[.int .i64 x, .int .i64 y, .int .i64 z] 25))
  have HRd := Lib.hid (hr3.alloc (.cells #[.int .i64 x, .int .i64 y, .int .i64 z] 25))
  have hB4 : Below w.heap.size w (w3.alloc (.cells #[.int .i64 x, .int .i64 y, .int .i64 z] 25)) := by (repeat' (first | (with_reducible exact Below.refl _ _) | (with_reducible assumption) | (with_reducible refine Below.alloc ?_ ?_ _) | (with_reducible refine Below.drew ?_) | (with_reducible refine below_drewN ?_ _) | (with_reducible refine Below.setCell ?_ ?_ _) | (with_reducible refine below_then ?_ ?_ (by with_reducible assumption)) | (with_reducible exact Nat.le_refl _) | go_size | (simp only [*]; done)))
  have pplt := hP3.lt
  have ppc0 := hP3.cell 0; have ppf0 := hP3.frozen 0
  have ppc1 := hP3.cell 1; have ppf1 := hP3.frozen 1
  have ppc2 := hP3.cell 2; have ppf2 := hP3.frozen 2
  simp only [List.getElem?_toArray, List.getElem?_cons_zero, List.getElem?_cons_succ] at ppc0 ppc1 ppc2
  clear hR3 hS3 hr3
  go_region_held3 (fun w' => w'.cell? ⟨w2.heap.size, 0, none⟩ = some (.int .i64 a) ∧ w'.cell? ⟨w2.heap.size, 1, none⟩ = some (.int .i64 b) ∧ w'.cell? ⟨w2.heap.size, 2, none⟩ = some (.int .i64 c) ∧ w'.cell? ⟨w3.heap.size, 0, none⟩ = some (.int .i64 x) ∧ w'.cell? ⟨w3.heap.size, 1, none⟩ = some (.int .i64 y) ∧ w'.cell? ⟨w3.heap.size, 2, none⟩ = some (.int .i64 z))
    (first | (simp [*, go_sem]; done))
    (first | (go_at_call 42; refine (one_any (w.heap.size + 1 + 1) _ (w3.heap.size + 1) 6 6 (fun i => [0, 10, 14, 30, 10000, -1].getD i 0) _ (HRd.out.drew.alloc _) (by omega) (by omega) (by omega) (by omega) (lit_cells [0, 10, 14, 30, 10000, -1] (Blk.new_at _ _ _ _ (by first | (simp; done) | (simp; omega))) rfl)).mono ?_; rintro e w4 ⟨v, _, rfl, hr4, ho4⟩; have hR4 := ((HR.out.drew.alloc _).grown ho4 (by first | (simp; done) | (simp; omega))); have hS4 := ((HS.out.drew.alloc _).grown ho4 (by first | (simp; done) | (simp; omega))); have hD4 := ((HD.out.drew.alloc _).grown ho4 (by first | (simp; done) | (simp; omega))); have hP4 := ((HP.out.drew.alloc _).grown ho4 (by first | (simp; done) | (simp; omega))); (have tlt := hR4.lt; have tc0 := hR4.cell 0; have tf0 := hR4.frozen 0; have tc1 := hR4.cell 1; have tf1 := hR4.frozen 1; have tc2 := hR4.cell 2; have tf2 := hR4.frozen 2; simp only [List.getElem?_toArray, List.getElem?_cons_zero, List.getElem?_cons_succ] at tc0 tc1 tc2); (have ult := hD4.lt; have uc0 := hD4.cell 0; have uf0 := hD4.frozen 0; have uc1 := hD4.cell 1; have uf1 := hD4.frozen 1; have uc2 := hD4.cell 2; have uf2 := hD4.frozen 2; simp only [List.getElem?_toArray, List.getElem?_cons_zero, List.getElem?_cons_succ] at uc0 uc1 uc2); (have slt := hS4.lt; have sc0 := hS4.cell 0; have sf0 := hS4.frozen 0; have sc1 := hS4.cell 1; have sf1 := hS4.frozen 1; have sc2 := hS4.cell 2; have sf2 := hS4.frozen 2; simp only [List.getElem?_toArray, List.getElem?_cons_zero, List.getElem?_cons_succ] at sc0 sc1 sc2); (have qlt := hP4.lt; have qc0 := hP4.cell 0; have qf0 := hP4.frozen 0; have qc1 := hP4.cell 1; have qf1 := hP4.frozen 1; have qc2 := hP4.cell 2; have qf2 := hP4.frozen 2; simp only [List.getElem?_toArray, List.getElem?_cons_zero, List.getElem?_cons_succ] at qc0 qc1 qc2)))
  all_goals
    go_wp2
    (first | go_returns | (refine bodyPost_ret (by simp [results, Try.results23, go_sem, *]; try rfl) rfl ?_))
    refine ⟨a, b, c, x, y, z, v, rfl, ?_⟩
    have hB5 : Below w.heap.size w w4 := (Below.alloc hB4.drew (by first | (simp; done) | (simp; omega)) _).trans (below_of_only ho4 (by omega) (by first | (simp; done) | (simp; omega)))
    (repeat' (first | (with_reducible exact Below.refl _ _) | (with_reducible assumption) | (with_reducible refine Below.alloc ?_ ?_ _) | (with_reducible refine Below.drew ?_) | (with_reducible refine below_drewN ?_ _) | (with_reducible refine Below.setCell ?_ ?_ _) | (with_reducible refine below_then ?_ ?_ (by with_reducible assumption)) | (with_reducible exact Nat.le_refl _) | go_size | (simp only [*]; done)))
end Go.Proofs.Ytdbjjfjagalhbaa
