/- A slice of lines of the call's own is marked. Conditions: at most 2^21 lines. -/
import Derived.Test.YticdgpgbpgjnbaaLineS
namespace Go.Proofs.Yticdgpgbpgjnbaa
open Go.RowKit

def mkc (i q : Nat) : Value := .int .i64 (3 * (i : Int) + q + 1)
def mkT (f : Nat → Nat → Value) (j i q : Nat) : Value := if i < j then mkc i q else f i q
theorem mk_step {f : Nat → Nat → Value} {n j : Nat} : ∀ i q, i < n → q < 3 →
    (if i = j ∧ q = 2 then .int .i64 (3 * (j : Int) + 1 + 1 + 1) else if i = j ∧ q = 1 then .int .i64 (3 * (j : Int) + 1 + 1) else if i = j ∧ q = 0 then .int .i64 (3 * (j : Int) + 1) else mkT f j i q) = mkT f (j + 1) i q := by
  intro i q _ hq
  unfold mkT
  by_cases e : i = j
  · subst e
    match q, hq with
    | 0, _ => simp [mkc]
    | 1, _ => simp [mkc] <;> omega
    | 2, _ => simp [mkc] <;> omega
  · have e2 : (i < j + 1) = (i < j) := by simp; omega
    simp [e, e2]

set_option maxHeartbeats 1000000 in
theorem markLineS_any (A : Option Addr) (n c base : Nat) (f : Nat → Nat → Value) (w : World) (hm : n ≤ 2097152) (h : OwnP w base 35 3 A n c f) :
    Calls Try.prog 26 #[.slice A n c, .int .i64 1] w fun e w' => e = .returned (.int .i64 (3 * (n : Int) + 1)) ∧ OwnP w' base 35 3 A n c mkc ∧ w.grownBy w' (Value.ownBlock (.slice A n c)) := by
  rcases h.form with ⟨rfl, rfl, rfl⟩ | ⟨g, rfl, hbg, hgl⟩
  · go_enter Try.func26, Try.ntmps26
    go_wp2_with fail
    go_loopg [1, 5] 0 (fun k r i wr => i = .int .i64 0 ∧ r = .int .i64 1 ∧ w.grownBy wr (Value.ownBlock (.slice none 0 0)))
    case atStart => exact ⟨rfl, rfl, rfl, rfl, rfl, Nat.le_refl _, fun _ _ _ => rfl⟩
    case round =>
      obtain ⟨rfl, rfl, hg⟩ := hrel
      go_wp2_with fail
      go_ret
      exact ⟨rfl, (h.kept hg (.inl rfl)).congr (fun i q hi => absurd hi (Nat.not_lt_zero _)), hg⟩
  · have HP := Lib.hid h
    clear h
    go_enter Try.func26, Try.ntmps26
    go_wp2_with fail
    go_loopg [1, 5] n (fun k r i wr => ∃ j : Nat, j ≤ n ∧ k = n - j ∧ i = .int .i64 j ∧ r = .int .i64 (3 * (j : Int) + 1) ∧ Hid (OwnP wr base 35 3 (some ⟨g, 0, none⟩) n c (mkT f j)) ∧ w.grownBy wr (some g))
    case atStart => exact ⟨0, Nat.zero_le _, rfl, rfl, by go_num, HP.out.congr (fun i q _ _ => rfl), rfl, rfl, rfl, Nat.le_refl _, fun _ _ _ => rfl⟩
    case round =>
      obtain ⟨j, hj, hk, rfl, rfl, hown, hbel⟩ := hrel
      have HK := Lib.hid hk; clear hk
      have hsz := hbel.size
      by_cases hlt : j < n
      · have o0 : wr.cell? ⟨g, j * 3, none⟩ = _ := hown.out.cell (q := 0) hlt (by omega)
        have o1 := hown.out.cell (q := 1) hlt (by omega)
        have o2 := hown.out.cell (q := 2) hlt (by omega)
        have of0 := hown.out.frozen (j * 3)
        have of1 := hown.out.frozen (j * 3 + 1)
        have of2 := hown.out.frozen (j * 3 + 2)
        go_wp2_with fail
        go_roundg (n - (j + 1))
        case measure => have := HK.out; omega
        case rel =>
          refine ⟨j + 1, by omega, rfl, by go_num, by go_num, (((hown.out.set0 hlt (by omega) _).set_ (q := 1) hlt (by omega) _).set_ (q := 2) hlt (by omega) _).congr mk_step, ?_⟩
          exact ⟨hbel.os, hbel.tape, hbel.output, by simpa [World.setCell] using hbel.size, fun i hi hne => (Below.heap_setCell _ _ _ i (fun e => hne (by rw [e]))).trans ((Below.heap_setCell _ _ _ i (fun e => hne (by rw [e]))).trans ((Below.heap_setCell _ _ _ i (fun e => hne (by rw [e]))).trans (hbel.block i hi hne)))⟩
      · have ej : j = n := by omega
        subst ej
        go_wp2_with fail
        go_ret
        exact ⟨rfl, hown.out.congr (fun i q hi _ => by unfold mkT; rw [if_pos hi]), hbel⟩
end Go.Proofs.Yticdgpgbpgjnbaa
