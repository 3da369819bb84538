/- The generator of sizes and ends. Conditions: the code is a slice of bytes. -/
import Derived.Test.YtlgbeoghjjjlmaaSizesDraw
namespace Go.Proofs.Ytlgbeoghjjjlmaa
open Go.RowKit

theorem someEnds_z (rb p : Nat) (z : Int) (w : World) (h : Rd w rb p) (hp : p ≤ 140737488355328) (h0 : 0 ≤ z) (h1 : z ≤ 60) : Calls Try.prog 47 #[.pointer (some ⟨rb, 0, none⟩), .int .i64 z] w (DrawnInts w rb p 130 60 (-1) 61) := by
  obtain ⟨k, rfl⟩ := Int.eq_ofNat_of_zero_le h0
  exact someEnds_any rb p k w h hp (by omega)
def SizesEndsOut (w : World) (e : Ending) (w' : World) : Prop :=
  ∃ (A B : Option Addr) (n c m d : Nat) (xs ys : List Int), e = .returned (.tuple #[.slice A n c, .slice B m d]) ∧ xs.length = n ∧ n ≤ 6 ∧ ys.length = m ∧ m ≤ 60 ∧ Row w' w'.heap.size 1 A n (inc xs) ∧ Row w' w'.heap.size 1 B m (inc ys) ∧ Below w.heap.size w w'

set_option maxHeartbeats 2000000 in
theorem DrawCountWidows_any (A : Option Addr) (n cap : Nat) (cs : List Int) (w : World) (hc : Code w A n cap cs) :
    Calls Try.prog 25 #[.slice A n cap] w (SizesEndsOut w) := by
  obtain ⟨h1, h2, h3, h4, h5⟩ := hc
  have HH := Lib.hid h4; clear h4
  go_enter Try.func25, Try.ntmps25
  go_wp2_with fail
  ((with_reducible refine (newReader_any _ _ _ cs _ h1 h2 h3 HH.out h5).mono ?_); rintro e w1 ⟨rfl, hr1, hb1⟩)
  have hs1 := hb1.size
  have hl1 := hr1.lt
  go_wp2_with fail
  ((with_reducible refine (someSizes_any _ _ _ hr1 (by omega)).mono ?_); rintro e w2 ⟨B, m, c, xs, p', rfl, hx, hm, hxb, hrow, hA, hp, hr2, ho2⟩)
  have HX := Lib.hid hx; clear hx
  have HXB := Lib.hid hxb; clear hxb
  have hb2 : Below w.heap.size w w2 := hb1.trans (below_of_only ho2 (Nat.le_refl _) hs1)
  have hs2 := hb2.size
  go_wp2_with fail
  go_loopg [6, 7] m (fun k t i wr => ∃ (j : Nat) (s : Int), j ≤ m ∧ k = m - j ∧ i = .int .i64 j ∧ t = .int .i64 s ∧ -50 * (j : Int) ≤ s ∧ s ≤ 50 * (j : Int) ∧ wr = w2)
  case atStart => exact ⟨0, 0, Nat.zero_le _, rfl, rfl, rfl, by omega, by omega, rfl⟩
  case round =>
    obtain ⟨j, s, hj, hk, rfl, rfl, s0, s1, rfl⟩ := hrel
    have HK := Lib.hid hk; clear hk
    by_cases hlt : j < m
    · obtain ⟨b, off, hB, hb, hc⟩ := hrow.at1 (by omega)
      have c0 := hc j hlt
      subst hB
      obtain ⟨x, hx⟩ : ∃ x, xs.getD j default = x := ⟨_, rfl⟩
      have hxx := HXB.out x (mem_of_getD HX.out hlt hx)
      simp only [inc, hx] at c0
      clear hc hx
      have hlt' : (j : Int) < (m : Int) := by omega
      go_wp2_with fail
      go_roundg (m - (j + 1))
      case measure => have := HK.out; omega
      case rel => exact ⟨j + 1, s + x, by omega, rfl, by go_num, rfl, by omega, by omega, rfl⟩
    · go_wp2_with fail
      all_goals
        ((with_reducible refine (someEnds_z _ _ _ _ hr2 (by omega) (by omega) (by omega)).mono ?_); rintro e w3 ⟨B2, m2, c2, ys, p2, rfl, hy, hm2, _, hrow2, _, _, hr3, ho3⟩)
        have hb3 := hb2.trans (below_of_only ho3 (Nat.le_refl _) hs2)
        have hrow3 := (hrow.only ho3 hA (Nat.le_refl _)).more ho3.size
        go_wp2
        go_ret2
        exact ⟨B, B2, m, c, m2, c2, xs, ys, rfl, HX.out, hm, hy, hm2, hrow3, hrow2, hb3⟩
end Go.Proofs.Ytlgbeoghjjjlmaa
