/- DrawShapeBreaks and DrawCheckShape of the reference. Conditions: the code is a slice of bytes. -/
import Derived.Test.YtkmipgekmbngcaaMSb10
import Derived.Test.YtkmipgekmbngcaaSomeBreaks
import Derived.Test.YtkmipgekmbngcaaMSb4
import Derived.Test.YtkmipgekmbngcaaShapeBreaksS
namespace Go.Proofs.Ytkmipgekmbngcaa
open Go.RowKit

/-- What a call leaves that draws items, a shape and a tolerance, out of a code. -/
def ShapeOut (w : World) (e : Ending) (w' : World) : Prop :=
  ∃ (g n c : Nat) (xs : List It) (S : Option Addr) (ns cs : Nat) (sh : List Int) (tol : Int), e = .returned (.tuple #[.slice (some ⟨g, 0, none⟩) n c, .slice S ns cs, .int .i64 tol]) ∧ xs.length = n ∧ n ≤ 23 ∧ (n ≤ c ∧ c ≤ maxLen) ∧ Row w' w'.heap.size 6 (some ⟨g, 0, none⟩) n (itc xs) ∧ sh.length = ns ∧ ns ≤ 4 ∧ Row w' w'.heap.size 1 S ns (inc sh) ∧ Below w.heap.size w w'
/-- What a call leaves that draws items, a shape, a tolerance and breaks, out of a code. -/
def CheckShOut (w : World) (e : Ending) (w' : World) : Prop :=
  ∃ (g n c : Nat) (xs : List It) (S : Option Addr) (ns cs : Nat) (sh : List Int) (tol : Int) (B : Option Addr) (q cb : Nat) (bs : List Int), e = .returned (.tuple #[.slice (some ⟨g, 0, none⟩) n c, .slice S ns cs, .int .i64 tol, .slice B q cb]) ∧ xs.length = n ∧ n ≤ 23 ∧ (n ≤ c ∧ c ≤ maxLen) ∧ Row w' w'.heap.size 6 (some ⟨g, 0, none⟩) n (itc xs) ∧ sh.length = ns ∧ ns ≤ 4 ∧ Row w' w'.heap.size 1 S ns (inc sh) ∧ bs.length = q ∧ q ≤ n ∧ Row w' w'.heap.size 1 B q (inc bs) ∧ Below w.heap.size w w'

set_option maxHeartbeats 1000000 in
theorem DrawShapeBreaks_any (A : Option Addr) (n cap : Nat) (cs : List Int) (w : World) (hc : Code w A n cap cs) :
    Calls Try.prog 10 #[.slice A n cap] w (ShapeOut w) := by
  obtain ⟨h1, h2, h3, h4, h5⟩ := hc
  have HH := Lib.hid h4; clear h4
  go_enter Try.func10, Try.ntmps10
  go_wp2_with fail
  ((with_reducible refine (newReader_any _ _ _ cs _ h1 h2 h3 HH.out h5).mono ?_); rintro e w1 ⟨rfl, hr1, hb1⟩)
  have hs1 := hb1.size
  have hl1 := hr1.lt
  go_wp2_with fail
  ((with_reducible refine (anyItems_any _ _ _ hr1 (by omega)).mono ?_); rintro e w2 ⟨g, m, c, xs, p', rfl, hx, hm, hcp, hrow, hg, hp, hr2, ho2⟩)
  have HX := Lib.hid hx; clear hx
  have hb2 : Below w.heap.size w w2 := hb1.trans (below_of_only ho2 (Nat.le_refl _) hs1)
  have hs2 := hb2.size
  go_wp2_with fail
  ((with_reducible refine (anyShape_any _ _ _ hr2 (by omega)).mono ?_); rintro e w3 ⟨S, ns, cS, sh, p3, rfl, hns, hn4, hshb, hrS, hSA, hp3, hr3, ho3⟩)
  have HNS := Lib.hid hns; clear hns hshb
  have HSA := Lib.hid hSA; clear hSA
  have hb3 : Below w.heap.size w w3 := hb2.trans (below_of_only ho3 (Nat.le_refl _) hs2)
  have hs3 := hb3.size
  have hrow3 := (Row.only hrow ho3 (by intro x hx; cases hx; simp; omega) (Nat.le_refl _)).more ho3.size
  go_wp2_with fail
  ((with_reducible refine (someTolerance_any _ _ _ hr3 (by omega)).mono ?_); rintro e w4 ⟨y, p4, rfl, hy0, hy1, hp4, hr4, ho4⟩)
  have hb4 : Below w.heap.size w w4 := hb3.trans (below_of_only ho4 (Nat.le_refl _) hs3)
  have hrow4 := (Row.only hrow3 ho4 (by intro x hx; cases hx; simp; omega) (Nat.le_refl _)).more ho4.size
  have hrS4 := (Row.only hrS ho4 HSA.out (Nat.le_refl _)).more ho4.size
  go_wp2_with fail
  (first | go_returns | (refine bodyPost_ret (by simp [results, Try.results10, go_sem, *]; try rfl) rfl ?_))
  exact ⟨g, m, c, xs, S, ns, cS, sh, y, rfl, HX.out, hm, hcp, hrow4, HNS.out, hn4, hrS4, hb4⟩

set_option maxHeartbeats 4000000 in
theorem DrawCheckShape_any (A : Option Addr) (n cap : Nat) (cs : List Int) (w : World) (hc : Code w A n cap cs) :
    Calls Try.prog 22 #[.slice A n cap] w (CheckShOut w) := by
  obtain ⟨h1, h2, h3, h4, h5⟩ := hc
  have HH := Lib.hid h4; clear h4
  go_enter Try.func22, Try.ntmps22
  go_wp2_with fail
  ((with_reducible refine (newReader_any _ _ _ cs _ h1 h2 h3 HH.out h5).mono ?_); rintro e w1 ⟨rfl, hr1, hb1⟩)
  have hs1 := hb1.size
  have hl1 := hr1.lt
  go_wp2_with fail
  ((with_reducible refine (anyItems_any _ _ _ hr1 (by omega)).mono ?_); rintro e w2 ⟨g, m, c, xs, p', rfl, hx, hm, hcp, hrow, hg, hp, hr2, ho2⟩)
  have HX := Lib.hid hx; clear hx
  have hb2 : Below w.heap.size w w2 := hb1.trans (below_of_only ho2 (Nat.le_refl _) hs1)
  have hs2 := hb2.size
  go_wp2_with fail
  ((with_reducible refine (anyShape_any _ _ _ hr2 (by omega)).mono ?_); rintro e w3 ⟨S, ns, cS, sh, p3, rfl, hns, hn4, hshb, hrS, hSA, hp3, hr3, ho3⟩)
  have HNS := Lib.hid hns; clear hns hshb
  have HSA := Lib.hid hSA; clear hSA
  have hb3 : Below w.heap.size w w3 := hb2.trans (below_of_only ho3 (Nat.le_refl _) hs2)
  have hs3 := hb3.size
  have hrow3 := (Row.only hrow ho3 (by intro x hx; cases hx; simp; omega) (Nat.le_refl _)).more ho3.size
  go_wp2_with fail
  ((with_reducible refine (someTolerance_any _ _ _ hr3 (by omega)).mono ?_); rintro e w4 ⟨y, p4, rfl, hy0, hy1, hp4, hr4, ho4⟩)
  have hb4 : Below w.heap.size w w4 := hb3.trans (below_of_only ho4 (Nat.le_refl _) hs3)
  have hs4 := hb4.size
  have hrow4 := (Row.only hrow3 ho4 (by intro x hx; cases hx; simp; omega) (Nat.le_refl _)).more ho4.size
  have hrS4 := (Row.only hrS ho4 HSA.out (Nat.le_refl _)).more ho4.size
  have hmx : m ≤ maxLen := by unfold maxLen; omega
  have hsx : ns ≤ maxLen := by unfold maxLen; omega
  obtain ⟨R, hR⟩ : ∃ R, shV xs sh y = R := ⟨_, rfl⟩
  obtain ⟨R1, R2, R3⟩ := R
  have hRl : R1.length ≤ m := by have := shV_len (xs := xs) (sh := sh) (tol := y); rw [hR, HX.out] at this; exact this
  have HRR := Lib.hid hR
  obtain ⟨rq, hrq⟩ : ∃ rq, R1.length = rq := ⟨_, rfl⟩
  rw [hrq] at hRl
  have HRQ := Lib.hid hrq
  clear hR hrq hrow hrow3 hrS
  go_wp2_with fail
  ((with_reducible refine (shapeBreaks_S _ _ _ _ _ _ y xs sh _ HX.out hmx ?_ HNS.out hsx ?_).mono ?_); (exact hrow4); (exact hrS4); rintro e w5 ⟨E, ec, rfl, hE, hb5'⟩)
  rw [HRR.out] at hE ⊢
  simp only [HRQ.out] at hE ⊢
  have hb5 : Below w.heap.size w w5 := below_then (Nat.le_refl _) hb4 hb5'
  have hs5 := hb5.size
  have hrow5 := hrow4.then_ hb5'
  have hrS5 := hrS4.then_ hb5'
  have hr5 := hr4.below hb5' hr4.lt
  have HE := Lib.hid hE
  clear hE hrow4 hrS4
  have hl5 := hr5.lt
  have hl4 := hr4.lt
  have hz5 := hb5'.size
  rcases R3 with _ | _
  · go_wp2_with fail
    ((with_reducible refine (someBreaks_any _ p4 _ m c 25 y xs _ HX.out (by omega) ?_ ?_ hr5 (by omega)).mono ?_); (exact hrow5); (intro x hx; cases hx; simp; omega); rintro e w6 ⟨B, q, cb, bs, p5, rfl, hq, hqn, hown, hp5, hr6, ho6⟩)
    have hb6 : Below w.heap.size w w6 := hb5.trans (below_of_only ho6 (Nat.le_refl _) hs5)
    have hrow6 := (Row.only hrow5 ho6 (by intro x hx; cases hx; simp; omega) (Nat.le_refl _)).more ho6.size
    have hrS6 := (Row.only hrS5 ho6 HSA.out (Nat.le_refl _)).more ho6.size
    go_wp2_with fail
    (first | go_returns | (refine bodyPost_ret (by simp [results, Try.results22, go_sem, *]; try rfl) rfl ?_))
    exact ⟨g, m, c, xs, S, ns, cS, sh, y, B, q, cb, bs, rfl, HX.out, hm, hcp, hrow6, HNS.out, hn4, hrS6, hq, hqn, hown.row, hb6⟩
  · go_wp2_with fail
    ((with_reducible refine (pick_any _ _ _ _ hr5 (by omega)).mono ?_); rintro e w6 ⟨v, rfl, hv0, hv1, hr6, ho6⟩)
    clear hv1
    have hb6 : Below w.heap.size w w6 := hb5.trans (below_of_only ho6 (Nat.le_refl _) hs5)
    have hs6 := hb6.size
    have hrow6 := (Row.only hrow5 ho6 (by intro x hx; cases hx; simp; omega) (Nat.le_refl _)).more ho6.size
    have hrS6 := (Row.only hrS5 ho6 HSA.out (Nat.le_refl _)).more ho6.size
    have hE6 := HE.out.kept ho6 (by cases hv : Value.ownBlock (.slice E rq ec) with
      | none => exact .inl rfl
      | some k => exact .inr (by have := (HE.out.block k hv).1; intro e; injection e with e; omega))
    have HE6 := Lib.hid hE6
    clear hE6 hrow5 hrS5
    by_cases hvp : 0 < v
    · have HRow := Lib.hid (hrow6.alloc' (.cells #[] 3))
      have HShape := Lib.hid (hrS6.alloc' (.cells #[] 3))
      have HE7 := Lib.hid (OwnI.alloc (show OwnI w6 w4.heap.size E rq ec R1 from HE6.out) (.cells #[] 3))
      have HO0 := Lib.hid (show OwnI (w6.alloc (.cells #[] 3)) w6.heap.size (some ⟨w6.heap.size, 0, none⟩) 0 0 [] from owns_nil _ _ _ _ _ _ _ (Blk.new w6 3 #[]) (Nat.le_refl _) (by unfold maxLen; omega) rfl)
      have hb6a : Below w.heap.size w (w6.alloc (.cells #[] 3)) := hb6.alloc hs6 _
      have hself : Below w6.heap.size (w6.alloc (.cells #[] 3)) (w6.alloc (.cells #[] 3)) := Below.refl _ _
      have hbase : w6.heap.size ≤ (w6.alloc (.cells #[] 3)).heap.size := by simp
      have KR : Hid (∀ w7, (w6.alloc (.cells #[] 3)).grownBy w7 (some w6.heap.size) → Row w7 w7.heap.size 6 (some ⟨g, 0, none⟩) m (itc xs) ∧ Row w7 w7.heap.size 1 S ns (inc sh) ∧ Below w.heap.size w w7) := fun w7 hg => by
        have hbb : Below w6.heap.size (w6.alloc (.cells #[] 3)) w7 := (Below.refl _ _).grown hg hbase (fun k hk => by injection hk; omega)
        have hbc : Below w6.heap.size w6 w7 := ((Below.refl w6.heap.size w6).alloc (Nat.le_refl _) _).trans hbb
        exact ⟨hrow6.then_ hbc, hrS6.then_ hbc, below_then (Nat.le_refl _) hb6 hbc⟩
      have hE0 : (0 : Nat) + rq ≤ 1048576 := by omega
      clear hrow6 hrS6
      go_wp2_with (at_builtin; (refine wpList_append_ints _ rfl _ _ rfl w6.heap.size w4.heap.size w6.heap.size 0 0 rq ec E [] R1 rfl HO0.out rfl HE7.out hE0 hbase ?_); intro g7 c7 w7 hown7 hgr7; (have HO7 := Lib.hid hown7); (obtain ⟨k1, k2, k3⟩ := KR.out w7 hgr7); clear hown7 hgr7)
      (first | go_returns | (refine bodyPost_ret (by simp [results, Try.results22, go_sem, *]; try rfl) rfl ?_))
      have hfin := HO7.out
      rw [List.nil_append] at hfin
      refine ⟨g, m, c, xs, S, ns, cS, sh, y, some ⟨g7, 0, none⟩, 0 + rq, c7, R1, by first | rfl | simp, HX.out, hm, hcp, k1, HNS.out, hn4, k2, by rw [HRQ.out]; omega, by omega, hfin.row, k3⟩
    · have hvf : decide (0 < v) = false := decide_eq_false hvp
      clear hvp
      go_wp2_with fail
      ((with_reducible refine (someBreaks_any _ _ _ m c 25 y xs _ HX.out (by omega) ?_ ?_ hr6 (by omega)).mono ?_); (exact hrow6); (intro x hx; cases hx; simp; omega); rintro e w7 ⟨B, q, cb, bs, p5, rfl, hq, hqn, hown, hp5, hr7, ho7⟩)
      have hb7 : Below w.heap.size w w7 := hb6.trans (below_of_only ho7 (Nat.le_refl _) hs6)
      have hrow7 := (Row.only hrow6 ho7 (by intro x hx; cases hx; simp; omega) (Nat.le_refl _)).more ho7.size
      have hrS7 := (Row.only hrS6 ho7 HSA.out (Nat.le_refl _)).more ho7.size
      go_wp2_with fail
      (first | go_returns | (refine bodyPost_ret (by simp [results, Try.results22, go_sem, *]; try rfl) rfl ?_))
      exact ⟨g, m, c, xs, S, ns, cS, sh, y, B, q, cb, bs, rfl, HX.out, hm, hcp, hrow7, HNS.out, hn4, hrS7, hq, hqn, hown.row, hb7⟩
end Go.Proofs.Ytkmipgekmbngcaa
