/- A slice of numbers of the call's own is marked k, k + 1, ..; and read again. Conditions: small numbers. -/
import Derived.Test.YtpcjoehdbohaoaaMarks
namespace Go.Proofs.Ytpcjoehdbohaoaa
open Go.RowKit

/-- The marks k, k + 1, .. -/
def marksK (k : Int) (n : Nat) : List Int := (List.range n).map fun (i : Nat) => k + (i : Int)
theorem marksK_len (k : Int) (n : Nat) : (marksK k n).length = n := by simp [marksK]
theorem marksK_at {k : Int} {n i : Nat} (h : i < n) : (marksK k n).getD i default = k + (i : Int) := by
  rw [List.getD_eq_getElem?_getD, marksK, List.getElem?_map, List.getElem?_range h]; rfl
def markTK (k : Int) (xs : List Int) (j : Nat) : List Int := marksK k j ++ xs.drop j
theorem markTK_set {k : Int} {xs : List Int} {n j : Nat} (h : xs.length = n) (hj : j < n) : (markTK k xs j).set j (k + (j : Int)) = markTK k xs (j + 1) := by
  unfold markTK
  rw [List.set_append_right _ _ (by rw [marksK_len]; omega), marksK_len, Nat.sub_self]
  have e : marksK k (j + 1) = marksK k j ++ [k + (j : Int)] := by simp [marksK, List.range_succ]
  rw [e, List.drop_eq_getElem_cons (by omega), List.append_assoc]
  rfl
theorem markTK_full {k : Int} {xs : List Int} {n : Nat} (h : xs.length = n) : markTK k xs n = marksK k n := by
  unfold markTK
  rw [List.drop_of_length_le (by omega), List.append_nil]

theorem markIntS_k (k : Int) (A : Option Addr) (n c base : Nat) (xs : List Int) (w : World) (hm : n ≤ 2097152) (k0 : 0 ≤ k) (k1 : k ≤ 1000000000) (h : OwnI w base A n c xs) :
    Calls Try.prog 18 #[.slice A n c, .int .i64 k] w fun e w' => e = .returned (.int .i64 (k + n)) ∧ OwnI w' base A n c (marksK k n) ∧ w.grownBy w' (Value.ownBlock (.slice A n c)) := by
  have hn := h.len
  rcases h.2 with ⟨hv, h0⟩ | ⟨g, cap, cur, hv, hbg, hgg, hnc, hcm, _⟩
  · cases hv
    clear hn
    go_enter Try.func18, Try.ntmps18
    go_wp2_with fail
    go_loopg [1, 5] 0 (fun _ r i wr => i = .int .i64 0 ∧ r = .int .i64 k ∧ w.grownBy wr (Value.ownBlock (.slice none 0 0)))
    case atStart => exact ⟨rfl, rfl, rfl, rfl, rfl, Nat.le_refl _, fun _ _ _ => rfl⟩
    case round =>
      obtain ⟨rfl, rfl, hg⟩ := hrel
      go_wp2_with fail
      go_ret
      exact ⟨ret_int (by omega), OwnI.eq (h.kept hg (.inl rfl)) (List.eq_nil_of_length_eq_zero h.len), hg⟩
  · cases hv
    unfold maxLen at hcm
    have HN := Lib.hid hn; clear hn hgg
    go_enter Try.func18, Try.ntmps18
    go_wp2_with fail
    go_loopg [1, 5] n (fun kk r i wr => ∃ j : Nat, j ≤ n ∧ kk = n - j ∧ i = .int .i64 j ∧ r = .int .i64 (k + (j : Int)) ∧ Hid (OwnI wr base (some ⟨g, 0, none⟩) n c (markTK k xs j)) ∧ w.grownBy wr (some g))
    case atStart => exact ⟨0, Nat.zero_le _, rfl, rfl, by go_num, h, rfl, rfl, rfl, Nat.le_refl _, fun _ _ _ => rfl⟩
    case round =>
      obtain ⟨j, hj, hk, rfl, rfl, hown, hbel⟩ := hrel
      have HK := Lib.hid hk; clear hk
      have hsz := hbel.size
      by_cases hlt : j < n
      · have o0 := hown.out.cellI hlt
        have of0 := hown.out.frozenAt j
        go_wp2_with fail
        go_roundg (n - (j + 1))
        case measure => have := HK.out; omega
        case rel => exact ⟨j + 1, by omega, rfl, by go_num, by go_num, (hown.out.stored _).eq (markTK_set HN.out hlt), hbel.os, hbel.tape, hbel.output, by simpa [World.setCell] using hbel.size, fun i hi hne => (Below.heap_setCell _ _ _ i (fun e => hne (by rw [e]))).trans (hbel.block i hi hne)⟩
      · go_wp2_with fail
        go_ret
        have ej : j = n := by omega
        subst ej
        exact ⟨rfl, hown.out.eq (markTK_full HN.out), hbel⟩

theorem heldIntS_k (k : Int) (A : Option Addr) (n c : Nat) (w : World) (hm : n ≤ 2097152) (k0 : 0 ≤ k) (k1 : k ≤ 1000000000) (hr : Row w w.heap.size 1 A n (inc (marksK k n))) :
    Calls Try.prog 19 #[.slice A n c, .int .i64 k] w fun e w' => e = .returned (.int .i64 (k + n)) ∧ Below w.heap.size w w' := by
  go_enter Try.func19, Try.ntmps19
  go_wp2_with fail
  go_loopg [1, 5] n (fun kk r i wr => ∃ j : Nat, j ≤ n ∧ kk = n - j ∧ i = .int .i64 j ∧ r = .int .i64 (k + (j : Int)) ∧ Below w.heap.size w wr)
  case atStart => exact ⟨0, Nat.zero_le _, rfl, rfl, by go_num, Below.refl _ _⟩
  case round =>
    obtain ⟨j, hj, hk, rfl, rfl, hbel⟩ := hrel
    have HK := Lib.hid hk; clear hk
    have hsz := hbel.size
    by_cases hlt : j < n
    · obtain ⟨b, off, rfl, hb, hc⟩ := hr.at1 (by omega)
      have c0 : wr.cell? ⟨b, off + j, none⟩ = _ := (hbel.cell (p := ⟨b, off + j, none⟩) hb).trans (hc j hlt)
      simp only [inc, marksK_at hlt] at c0
      clear hc
      go_wp2_with fail
      go_roundg (n - (j + 1))
      case measure => have := HK.out; omega
      case rel => exact ⟨j + 1, by omega, rfl, by go_num, by go_num, by (repeat' (first | (with_reducible exact Below.refl _ _) | (with_reducible assumption) | (with_reducible refine Below.alloc ?_ ?_ _) | (with_reducible refine Below.drew ?_) | (with_reducible refine below_drewN ?_ _) | (with_reducible refine Below.setCell ?_ ?_ _) | (with_reducible refine below_then ?_ ?_ (by with_reducible assumption)) | (with_reducible exact Nat.le_refl _) | go_size | (simp only [*]; done)))⟩
    · have ej : j = n := by omega
      subst ej
      go_wp2_with fail
      go_ret
      exact ⟨rfl, hbel⟩
end Go.Proofs.Ytpcjoehdbohaoaa
