/- The laws on shapes with indented lines answer true: FnExactHangShape, FnHangPlain, FnHangShape. Conditions: the code is a slice of bytes. -/
import Derived.Test.YtifeapincbjeeaaHang
import Derived.Test.YtifeapincbjeeaaIntLaws
namespace Go.Proofs.Ytifeapincbjeeaa
open Go.RowKit

theorem hangF_len (a i f c : Int) : (hangF a i f c).1.length ≤ 12 := by
  rcases h : hangOk a i f c with _ | _
  · rw [hang_no h]; simp
  · obtain ⟨_, _, h3, h4, h5⟩ := hangOk_iff.1 h
    simp only [hangF, h, if_true, hangL_len]
    omega

set_option maxHeartbeats 2000000 in
theorem law_ExactHangShape (a i f c : Int) (w : World) :
    Calls Try.prog 5 #[.int .i64 a, .int .i64 i, .int .i64 f, .int .i64 c] w fun e w' => e = .returned (.bool true) ∧ Below w.heap.size w w' := by
  obtain ⟨⟨xs, ok⟩, hx⟩ : ∃ r, hangF a i f c = r := ⟨_, rfl⟩
  have hl := hangF_len a i f c
  rw [hx] at hl
  simp only at hl
  obtain ⟨n, hn⟩ : ∃ n, xs.length = n := ⟨_, rfl⟩
  rw [hn] at hl
  have HX := Lib.hid hx
  have HN := Lib.hid hn
  clear hx hn
  have hs : ∀ W, Calls Try.prog 15 #[.int .i64 a, .int .i64 i, .int .i64 f, .int .i64 c] W fun e w' => ∃ (A : Option Addr) (d : Nat), e = .returned (.tuple #[.slice A n d, .bool ok]) ∧ OwnI w' W.heap.size A n d xs ∧ Below W.heap.size W w' := fun W => by
    have := hang_s a i f c W
    rw [HX.out] at this
    refine this.mono ?_
    rintro e w' ⟨A, d, h1, h2, h3⟩
    rw [HN.out] at h1 h2
    exact ⟨A, d, h1, h2, h3⟩
  have hi : ∀ W, Calls Try.prog 16 #[.int .i64 a, .int .i64 i, .int .i64 f, .int .i64 c] W fun e w' => ∃ (A : Option Addr) (d : Nat), e = .returned (.tuple #[.slice A n d, .bool ok]) ∧ OwnI w' W.heap.size A n d xs ∧ Below W.heap.size W w' := fun W => by
    have := hang_i a i f c W
    rw [HX.out] at this
    refine this.mono ?_
    rintro e w' ⟨A, d, h1, h2, h3⟩
    rw [HN.out] at h1 h2
    exact ⟨A, d, h1, h2, h3⟩
  have HS := Lib.hid hs
  have HI := Lib.hid hi
  clear hs hi
  have hmx : n ≤ maxLen := by unfold maxLen; omega
  go_enter Try.func5, Try.ntmps5
  go_wp2_with fail
  ((with_reducible refine (HS.out _).mono ?_); rintro e w1 ⟨A1, d1, rfl, ho1, hb1⟩)
  have hz1 := hb1.size
  go_wp2_with fail
  ((with_reducible refine (HI.out _).mono ?_); rintro e w2 ⟨A2, d2, rfl, ho2, hb2⟩)
  have hz2 := hb2.size
  have ho12 := ho1.then_ hb2
  go_wp2_with fail
  ((with_reducible refine (eqIntS_same _ _ _ _ _ xs _ hmx ?_ ?_).mono ?_); (exact ho2.row); (exact ho12.row); rintro e w3 ⟨rfl, hb3⟩)
  have hz3 := hb3.size
  have ho13 := ho12.then_ hb3
  have ho23 := ho2.then_ hb3
  go_wp2_with fail
  ((with_reducible refine (markIntS_any _ _ _ _ _ _ (by omega) ho23).mono ?_); rintro e w4 ⟨rfl, ho24, hg4⟩)
  have hz4 := hg4.size
  have hlt13 := ho13.lt
  have ho14 : OwnI w4 w.heap.size A1 n d1 xs := ho13.apart hg4 (fun x hx y hy => by
    have h1 := ho12.lt x.block (by rw [hx]; rfl)
    have h2 := ho2.lt y.block (by rw [hy]; rfl)
    have h3 := ho1.lt x.block (by rw [hx]; rfl)
    omega)
  have hB3 : Below w.heap.size w w3 := by (repeat' (first | (with_reducible exact Below.refl _ _) | (with_reducible assumption) | (with_reducible refine Below.alloc ?_ ?_ _) | (with_reducible refine Below.drew ?_) | (with_reducible refine below_drewN ?_ _) | (with_reducible refine Below.setCell ?_ ?_ _) | (with_reducible refine below_then ?_ ?_ (by with_reducible assumption)) | (with_reducible exact Nat.le_refl _) | go_size | (simp only [*]; done)))
  have hB4 : Below w.heap.size w w4 := hB3.grown hg4 hB3.size (fun k hk => by have := (ho23.lt k hk).1; omega)
  have hn1 : (0 : Int) ≤ (n : Int) + 1 := by omega
  clear hlt13
  go_wp2_with fail
  ((with_reducible refine (heldIntS_any _ _ _ _ (by omega) ?_).mono ?_); (exact ho24.row); rintro e w5 ⟨rfl, hb5⟩)
  have hz5 := hb5.size
  have ho15 := ho14.then_ hb5
  have ho25 := ho24.then_ hb5
  have hB5 : Below w.heap.size w w5 := below_then (Nat.le_refl _) hB4 hb5
  go_wp2_with fail
  ((with_reducible refine (HI.out _).mono ?_); rintro e w6 ⟨A3, d3, rfl, ho6, hb6⟩)
  have hz6 := hb6.size
  have ho16 := ho15.then_ hb6
  have ho26 := ho25.then_ hb6
  have hB6 : Below w.heap.size w w6 := below_then (Nat.le_refl _) hB5 hb6
  go_wp2_with fail
  ((with_reducible refine (eqIntS_same _ _ _ _ _ xs _ hmx ?_ ?_).mono ?_); (exact ho6.row); (exact ho16.row); rintro e w7 ⟨rfl, hb7⟩)
  have ho27 := ho26.then_ hb7
  have hB7 : Below w.heap.size w w7 := below_then (Nat.le_refl _) hB6 hb7
  go_wp2_with fail
  ((with_reducible refine (heldIntS_any _ _ _ _ (by omega) ?_).mono ?_); (exact ho27.row); rintro e w8 ⟨rfl, hb8⟩)
  have hB8 : Below w.heap.size w w8 := below_then (Nat.le_refl _) hB7 hb8
  go_wp2_with fail
  go_returns
  exact ⟨rfl, hB8⟩
end Go.Proofs.Ytifeapincbjeeaa
