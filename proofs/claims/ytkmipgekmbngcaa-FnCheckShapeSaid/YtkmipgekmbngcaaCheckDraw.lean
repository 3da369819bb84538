/- DrawCheckBreaks of the reference, and the law on checks for one width: FnCheckShape answers true. Conditions: the code is a slice of bytes. -/
import Derived.Test.YtkmipgekmbngcaaSomeBreaks
import Derived.Test.YtkmipgekmbngcaaTolDraw
import Derived.Test.YtkmipgekmbngcaaCheckBreaks
import Derived.Test.YtkmipgekmbngcaaLawCheckShape
namespace Go.Proofs.Ytkmipgekmbngcaa
open Go.RowKit

/-- What a call leaves that draws items, a width, a tolerance and breaks, out of a code. -/
def CheckOut (w : World) (e : Ending) (w' : World) : Prop :=
  ∃ (g n c : Nat) (xs : List It) (d tol : Int) (B : Option Addr) (q cb : Nat) (bs : List Int), e = .returned (.tuple #[.slice (some ⟨g, 0, none⟩) n c, .int .i64 d, .int .i64 tol, .slice B q cb]) ∧ xs.length = n ∧ n ≤ 23 ∧ (n ≤ c ∧ c ≤ maxLen) ∧ Row w' w'.heap.size 6 (some ⟨g, 0, none⟩) n (itc xs) ∧ bs.length = q ∧ q ≤ n ∧ Row w' w'.heap.size 1 B q (inc bs) ∧ Below w.heap.size w w'

set_option maxHeartbeats 1000000 in
theorem DrawCheckBreaks_any (A : Option Addr) (n cap : Nat) (cs : List Int) (w : World) (hc : Code w A n cap cs) :
    Calls Try.prog 16 #[.slice A n cap] w (CheckOut w) := by
  obtain ⟨h1, h2, h3, h4, h5⟩ := hc
  have HH := Lib.hid h4; clear h4
  go_enter Try.func16, Try.ntmps16
  go_wp2_with fail
  ((with_reducible refine (newReader_any _ _ _ cs _ h1 h2 h3 HH.out h5).mono ?_); rintro e w1 ⟨rfl, hr1, hb1⟩)
  have hs1 := hb1.size
  have hl1 := hr1.lt
  go_wp2_with fail
  ((with_reducible refine (anyItems_any _ _ _ hr1 (by omega)).mono ?_); rintro e w2 ⟨g, m, c, xs, p', rfl, hx, hm, hcp, hrow, hg, hp, hr2, ho2⟩)
  have HX := Lib.hid hx; clear hx
  have hb2 : Below w.heap.size w w2 := hb1.trans (below_of_only ho2 (Nat.le_refl _) hs1)
  have hs2 := hb2.size
  go_wp2_with fail
  ((with_reducible refine (someWidth_any _ _ _ hr2 (by omega)).mono ?_); rintro e w3 ⟨x, p3, rfl, hx0, hx1, hp3, hr3, ho3⟩)
  have hb3 : Below w.heap.size w w3 := hb2.trans (below_of_only ho3 (Nat.le_refl _) hs2)
  have hs3 := hb3.size
  have hrow3 := (Row.only hrow ho3 (by intro x hx; cases hx; simp; omega) (Nat.le_refl _)).more ho3.size
  go_wp2_with fail
  ((with_reducible refine (someTolerance_any _ _ _ hr3 (by omega)).mono ?_); rintro e w4 ⟨y, p4, rfl, hy0, hy1, hp4, hr4, ho4⟩)
  have hb4 : Below w.heap.size w w4 := hb3.trans (below_of_only ho4 (Nat.le_refl _) hs3)
  have hs4 := hb4.size
  have hrow4 := (Row.only hrow3 ho4 (by intro x hx; cases hx; simp; omega) (Nat.le_refl _)).more ho4.size
  go_wp2_with fail
  ((with_reducible refine (someBreaks_any _ p4 _ m c x y xs _ HX.out (by omega) ?_ ?_ hr4 (by omega)).mono ?_); (exact hrow4); (intro x hx; cases hx; simp; omega); rintro e w5 ⟨B, q, cb, bs, p5, rfl, hq, hqn, hown, hp5, hr5, ho5⟩)
  have hb5 : Below w.heap.size w w5 := hb4.trans (below_of_only ho5 (Nat.le_refl _) hs4)
  have hrow5 := (Row.only hrow4 ho5 (by intro x hx; cases hx; simp; omega) (Nat.le_refl _)).more ho5.size
  go_wp2_with fail
  (first | go_returns | (refine bodyPost_ret (by simp [results, Try.results16, go_sem, *]; try rfl) rfl ?_))
  exact ⟨g, m, c, xs, x, y, B, q, cb, bs, rfl, HX.out, hm, hcp, hrow5, hq, hqn, hown.row, hb5⟩
theorem row_one (w : World) (t : TypeId) (d : Int) : Row (w.alloc (.cells #[.int .i64 d] t)) (w.heap.size + 1) 1 (some ⟨w.heap.size, 0, none⟩) 1 (inc [d]) := fun _ => by
  refine ⟨w.heap.size, 0, rfl, by omega, fun i j hi hj => ?_⟩
  obtain rfl : i = 0 := by omega
  obtain rfl : j = 0 := by omega
  exact (Blk.new w t #[.int .i64 d]).cell 0

set_option maxRecDepth 100000 in
set_option maxHeartbeats 4000000 in
theorem law_CheckShape (A : Option Addr) (n cap : Nat) (cs : List Int) (w : World) (hc : Code w A n cap cs) :
    Calls Try.prog 7 #[.slice A n cap] w fun e w' => e = .returned (.bool true) ∧ Below w.heap.size w w' := by
  have hn := hc.1
  unfold maxLen at hn
  by_cases hbig : 1048576 < n
  · go_enter Try.func7, Try.ntmps7
    go_wp2
    go_returns
    exact ⟨rfl, Below.refl _ _⟩
  go_enter Try.func7, Try.ntmps7
  go_wp2_with fail
  ((with_reducible refine (DrawCheckBreaks_any _ _ _ cs _ hc).mono ?_); rintro e w1 ⟨g, m, c, xs, d, tol, B, q, cb, bs, rfl, hx, hm, hcp, hr1, hq, hqm, ho1, hb1⟩)
  have HX := Lib.hid hx; clear hx
  have HQ := Lib.hid hq; clear hq
  have HCP := Lib.hid hcp; clear hcp
  have hmx : m ≤ maxLen := by unfold maxLen; omega
  have hqx : q ≤ maxLen := by unfold maxLen; omega
  have h1x : 1 ≤ maxLen := by unfold maxLen; omega
  obtain ⟨V, hV⟩ : ∃ V, chkV xs [d] tol bs = V := ⟨_, rfl⟩
  obtain ⟨v, hv⟩ : ∃ v, V.getD 0 = v := ⟨_, rfl⟩
  obtain ⟨o, ho⟩ : ∃ o, V.isSome = o := ⟨_, rfl⟩
  have HV := Lib.hid hV
  have HC := Lib.hid hv
  have HO := Lib.hid ho
  clear hV hv ho
  go_wp2_with fail
  ((with_reducible refine ((checkBreaks_i _ _ _ _ _ _ d tol xs bs _ HX.out hmx HCP.out ?_ HQ.out hqx ?_).mono fun _ _ h => opt_form HV.out HC.out HO.out h).mono ?_); (exact hr1); (exact ho1); rintro e w2 ⟨rfl, hb2⟩)
  have hr2 := hr1.then_ hb2
  have ho2 := ho1.then_ hb2
  have hB2 := below_then (Nat.le_refl _) hb1 hb2
  go_wp2_with fail
  ((with_reducible refine ((checkBreaks_s _ _ _ _ _ _ d tol xs bs _ HX.out hmx ?_ HQ.out hqx ?_).mono fun _ _ h => opt_form HV.out HC.out HO.out h).mono ?_); (exact hr2); (exact ho2); rintro e w3 ⟨rfl, hb3⟩)
  have hr3 := Lib.hid ((hr2.then_ hb3).alloc' (.cells #[.int .i64 d] 3))
  have ho3 := Lib.hid ((ho2.then_ hb3).alloc' (.cells #[.int .i64 d] 3))
  have hB3 := below_then (Nat.le_refl _) hB2 hb3
  have hB3a := hB3.alloc hB3.size (.cells #[.int .i64 d] 3)
  have hd3 := Lib.hid (row_one w3 3 d)
  have hvv : (v == v) = true := by simp
  have hoo : (o == o) = true := by simp
  clear hr1 hr2 ho1 ho2
  go_wp2_with fail
  ((with_reducible refine ((checkShape_i _ _ _ _ _ _ _ _ _ tol xs [d] bs _ HX.out hmx HCP.out ?_ (show [d].length = 1 from rfl) h1x ?_ HQ.out hqx ?_).mono fun _ _ h => opt_form HV.out HC.out HO.out h).mono ?_); (exact hr3.out); (exact hd3.out.more (by simp)); (exact ho3.out); rintro e w4 ⟨rfl, hb4⟩)
  go_wp2_with fail
  go_returns
  exact ⟨by simp, below_then (Nat.le_refl _) hB3a hb4⟩
end Go.Proofs.Ytkmipgekmbngcaa
