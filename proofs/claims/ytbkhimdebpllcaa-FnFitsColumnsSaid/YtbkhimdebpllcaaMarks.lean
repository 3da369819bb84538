/- A slice of numbers of the call's own is marked 1, 2, ... Conditions: at most 2^21 numbers. -/
import Derived.Test.YtbkhimdebpllcaaInts
namespace Go.Proofs.Ytbkhimdebpllcaa
open Go.RowKit

/-- The marks 1, 2, .. -/
def marks (n : Nat) : List Int := (List.range n).map fun (i : Nat) => (i : Int) + 1
theorem marks_len (n : Nat) : (marks n).length = n := by simp [marks]
theorem marks_at {n i : Nat} (h : i < n) : (marks n).getD i default = (i : Int) + 1 := by
  rw [List.getD_eq_getElem?_getD, marks, List.getElem?_map, List.getElem?_range h]; rfl
/-- A row that is being marked. -/
def markT (xs : List Int) (j : Nat) : List Int := marks j ++ xs.drop j
theorem markT_set {xs : List Int} {n j : Nat} (h : xs.length = n) (hj : j < n) : (markT xs j).set j ((j : Int) + 1) = markT xs (j + 1) := by
  unfold markT
  rw [List.set_append_right _ _ (by rw [marks_len]; omega), marks_len, Nat.sub_self]
  have e : marks (j + 1) = marks j ++ [(j : Int) + 1] := by simp [marks, List.range_succ]
  rw [e, List.drop_eq_getElem_cons (by omega), List.append_assoc]
  rfl
theorem markT_full {xs : List Int} {n : Nat} (h : xs.length = n) : markT xs n = marks n := by
  unfold markT
  rw [List.drop_of_length_le (by omega), List.append_nil]

theorem markIntS_any (A : Option Addr) (n c base : Nat) (xs : List Int) (w : World) (hm : n ≤ 2097152) (h : OwnI w base A n c xs) :
    Calls Try.prog 16 #[.slice A n c, .int .i64 1] w fun e w' => e = .returned (.int .i64 (n + 1)) ∧ OwnI w' base A n c (marks n) ∧ w.grownBy w' (Value.ownBlock (.slice A n c)) := by
  have hn := h.len
  rcases h.2 with ⟨hv, h0⟩ | ⟨g, cap, cur, hv, hbg, hgg, hnc, hcm, _⟩
  · cases hv
    clear hn
    go_enter Try.func16, Try.ntmps16
    go_wp2_with fail
    go_loopg [1, 5] 0 (fun k r i wr => i = .int .i64 0 ∧ r = .int .i64 1 ∧ w.grownBy wr (Value.ownBlock (.slice none 0 0)))
    case atStart => exact ⟨rfl, rfl, rfl, rfl, rfl, Nat.le_refl _, fun _ _ _ => rfl⟩
    case round =>
      obtain ⟨rfl, rfl, hg⟩ := hrel
      go_wp2_with fail
      go_ret
      exact ⟨rfl, OwnI.eq (h.kept hg (.inl rfl)) (List.eq_nil_of_length_eq_zero h.len), hg⟩
  · cases hv
    unfold maxLen at hcm
    have HN := Lib.hid hn; clear hn hgg
    go_enter Try.func16, Try.ntmps16
    go_wp2_with fail
    go_loopg [1, 5] n (fun k r i wr => ∃ j : Nat, j ≤ n ∧ k = n - j ∧ i = .int .i64 j ∧ r = .int .i64 ((j : Int) + 1) ∧ Hid (OwnI wr base (some ⟨g, 0, none⟩) n c (markT xs j)) ∧ w.grownBy wr (some g))
    case atStart => exact ⟨0, Nat.zero_le _, rfl, rfl, by go_num, h, rfl, rfl, rfl, Nat.le_refl _, fun _ _ _ => rfl⟩
    case round =>
      obtain ⟨j, hj, hk, rfl, rfl, hown, hbel⟩ := hrel
      have HK := Lib.hid hk; clear hk
      have hsz := hbel.size
      by_cases hlt : j < n
      · have o0 := hown.out.cellI hlt
        have of0 := hown.out.frozenAt j
        go_wp2_with fail
        go_roundg (n - (j + 1))
        case measure => have := HK.out; omega
        case rel => exact ⟨j + 1, by omega, rfl, by go_num, by go_num, (hown.out.stored _).eq (markT_set HN.out hlt), hbel.os, hbel.tape, hbel.output, by simpa [World.setCell] using hbel.size, fun i hi hne => (Below.heap_setCell _ _ _ i (fun e => hne (by rw [e]))).trans (hbel.block i hi hne)⟩
      · go_wp2_with fail
        go_ret
        have ej : j = n := by omega
        subst ej
        exact ⟨rfl, hown.out.eq (markT_full HN.out), hbel⟩

end Go.Proofs.Ytbkhimdebpllcaa
