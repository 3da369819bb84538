/- slices.Reverse turns a slice of numbers of the call's own round. Conditions: at most 2^20 numbers. -/
import Derived.Test.YticdgpgbpgjnbaaInts
import Derived.Test.YticdgpgbpgjnbaaLists
namespace Go.Proofs.Yticdgpgbpgjnbaa
open Go.RowKit

/-- A list that is being turned round: j elements from each side are in place. -/
def revT (xs : List Int) (j : Nat) : List Int := (List.range xs.length).map fun k => if k < j ∨ xs.length ≤ k + j then xs.getD (xs.length - 1 - k) default else xs.getD k default
theorem revT_len (xs : List Int) (j : Nat) : (revT xs j).length = xs.length := by simp [revT]
theorem revT_at {xs : List Int} {j k : Nat} (hk : k < xs.length) : (revT xs j).getD k default = if k < j ∨ xs.length ≤ k + j then xs.getD (xs.length - 1 - k) default else xs.getD k default := by
  rw [List.getD_eq_getElem?_getD, revT, List.getElem?_map, List.getElem?_range hk]; rfl
theorem ext_getD {xs ys : List Int} (h : xs.length = ys.length) (e : ∀ k, k < xs.length → xs.getD k default = ys.getD k default) : xs = ys := by
  apply List.ext_getElem h
  intro i h1 h2
  have := e i h1
  rw [List.getD_eq_getElem?_getD, List.getD_eq_getElem?_getD, List.getElem?_eq_getElem h1, List.getElem?_eq_getElem h2] at this
  exact this
theorem revT_zero (xs : List Int) : revT xs 0 = xs := ext_getD (revT_len _ _) fun k hk => by
  rw [revT_len] at hk
  rw [revT_at hk, if_neg (by omega)]
theorem revT_end {xs : List Int} {j : Nat} (h : xs.length ≤ 2 * j + 1) : revT xs j = xs.reverse := ext_getD (by simp [revT]) fun k hk => by
  rw [revT_len] at hk
  rw [revT_at hk]
  have e : xs.reverse.getD k default = xs.getD (xs.length - 1 - k) default := by
    rw [List.getD_eq_getElem?_getD, List.getD_eq_getElem?_getD, List.getElem?_reverse hk]
  rw [e]
  by_cases h1 : k < j ∨ xs.length ≤ k + j
  · rw [if_pos h1]
  · rw [if_neg h1, show xs.length - 1 - k = k by omega]
theorem getD_set (xs : List Int) (i k : Nat) (v : Int) (hk : k < xs.length) : (xs.set i v).getD k default = if i = k then v else xs.getD k default := by
  rw [List.getD_eq_getElem?_getD, List.getD_eq_getElem?_getD, List.getElem?_set]
  by_cases e : i = k
  · subst e; rw [if_pos rfl, if_pos rfl, if_pos hk]; rfl
  · rw [if_neg e, if_neg e]
theorem revT_step {xs : List Int} {n j u : Nat} {x y : Int} (hn : xs.length = n) (hu : u + j + 1 = n) (hj : j < u) (hx : xs.getD j default = x) (hy : xs.getD u default = y) :
    ((revT xs j).set j y).set u x = revT xs (j + 1) ∧ ((revT xs j).set u x).set j y = revT xs (j + 1) := by
  have e1 : ((revT xs j).set j y).set u x = revT xs (j + 1) := ext_getD (by simp [revT]) fun k hk => by
    simp only [List.length_set, revT_len] at hk
    rw [getD_set _ _ _ _ (by simp [revT_len]; omega), getD_set _ _ _ _ (by simp [revT_len]; omega), revT_at hk, revT_at hk]
    by_cases a : u = k
    · subst a
      rw [if_pos rfl, if_pos (by omega), show xs.length - 1 - u = j by omega, hx]
    · rw [if_neg a]
      by_cases b : j = k
      · subst b
        rw [if_pos rfl, if_pos (by omega), show xs.length - 1 - j = u by omega, hy]
      · rw [if_neg b]
        by_cases h : k < j ∨ xs.length ≤ k + j
        · rw [if_pos h, if_pos (by omega)]
        · rw [if_neg h, if_neg (by omega)]
  exact ⟨e1, by rw [List.set_comm _ _ (by omega)]; exact e1⟩

set_option maxHeartbeats 1000000 in
theorem reverse_any (A : Option Addr) (n c base : Nat) (xs : List Int) (w : World) (hm : n ≤ 1048576) (h : OwnI w base A n c xs) :
    Calls Try.prog 60 #[.slice A n c] w fun e w' => e = .returned (.tuple #[]) ∧ OwnI w' base A n c xs.reverse ∧ w.grownBy w' (Value.ownBlock (.slice A n c)) := by
  have hn := h.len
  rcases h.2 with ⟨hv, h0⟩ | ⟨g, cap, cur, hv, hbg, hgg, hnc, hcm, _⟩
  · cases hv
    have he : xs = [] := List.eq_nil_of_length_eq_zero hn
    subst he
    have HO := Lib.hid h
    clear hn h
    go_enter Try.func60, Try.ntmps60
    go_wp2_with fail
    go_loopg [2, 3] 0 (fun k i j wr => i = .int .i64 0 ∧ j = .int .i64 (-1) ∧ wr = w)
    case atStart => exact ⟨by go_num, by go_num, rfl⟩
    case round =>
      obtain ⟨rfl, rfl, rfl⟩ := hrel
      go_wp2_with fail
      go_end0
      exact ⟨rfl, HO.out, rfl, rfl, rfl, Nat.le_refl _, fun _ _ _ => rfl⟩
  · cases hv
    unfold maxLen at hcm
    have HN := Lib.hid hn
    have HO := Lib.hid h
    clear hn hgg h
    go_enter Try.func60, Try.ntmps60
    go_wp2_with fail
    go_loopg [2, 3] n (fun k i jv wr => ∃ (j : Nat) (z : Int), j ≤ n ∧ k = n - j ∧ i = .int .i64 j ∧ jv = .int .i64 z ∧ Hid (z = (n : Int) - 1 - j) ∧ -2 ≤ z + j ∧ z ≤ n ∧ Hid (OwnI wr base (some ⟨g, 0, none⟩) n c (revT xs j)) ∧ w.grownBy wr (some g))
    case atStart => exact ⟨0, (n : Int) - 1, Nat.zero_le _, rfl, by go_num, by go_num, by simp [Hid], by omega, by omega, HO.out.eq (revT_zero xs).symm, rfl, rfl, rfl, Nat.le_refl _, fun _ _ _ => rfl⟩
    case round =>
      obtain ⟨j, z, hj, hk, rfl, rfl, hz, hz1, hz2, hown, hbel⟩ := hrel
      have HK := Lib.hid hk; clear hk
      have hsz := hbel.size
      by_cases hlt : 2 * j + 1 < n
      · obtain ⟨u, rfl⟩ := Int.eq_ofNat_of_zero_le (show 0 ≤ z by have := hz.out; omega)
        have hju : j < u := by have := hz.out; omega
        have hun : u < n := by have := hz.out; omega
        have o0 := hown.out.cellI (j := j) (by omega)
        have o1 := hown.out.cellI (j := u) hun
        have of0 := hown.out.frozenAt j
        have of1 := hown.out.frozenAt u
        obtain ⟨x, hx⟩ : ∃ x, xs.getD j default = x := ⟨_, rfl⟩
        obtain ⟨y, hy⟩ : ∃ y, xs.getD u default = y := ⟨_, rfl⟩
        rw [revT_at (by rw [HN.out]; omega), if_neg (by rw [HN.out]; omega), hx] at o0
        rw [revT_at (by rw [HN.out]; omega), if_neg (by rw [HN.out]; have := hz.out; omega), hy] at o1
        have hstep := revT_step HN.out (by have := hz.out; omega) hju hx hy
        have HST := Lib.hid hstep
        have hju' : (j : Int) < (u : Int) := by omega
        have hjn' : (j : Int) < (n : Int) := by omega
        have hun' : (u : Int) < (n : Int) := by omega
        have hne : ¬ j = u := by omega
        have hne' : ¬ u = j := by omega
        clear hx hy hstep
        go_wp2_with fail
        go_region
        all_goals
          go_wp2_with fail
          go_roundg (n - (j + 1))
          case measure => have := HK.out; omega
          case rel =>
            refine ⟨j + 1, (u : Int) - 1, by omega, rfl, by go_num, by go_num, (by have := hz.out; show _ = _; omega), by omega, by omega, ?_, ?_⟩
            · first
              | exact (((hown.out.stored (j := j) y).stored (j := u) x).eq HST.out.1)
              | exact (((hown.out.stored (j := u) x).stored (j := j) y).eq HST.out.2)
            · exact ⟨hbel.os, hbel.tape, hbel.output, by simpa [World.setCell] using hbel.size, fun i hi hne => (Below.heap_setCell _ _ _ i (fun e => hne (by rw [e]))).trans ((Below.heap_setCell _ _ _ i (fun e => hne (by rw [e]))).trans (hbel.block i hi hne))⟩
      · have hzj : z ≤ (j : Int) := by have := hz.out; omega
        have hfin := hown.out.eq (revT_end (by rw [HN.out]; omega))
        have HF := Lib.hid hfin
        clear hfin
        go_wp2_with fail
        go_end0
        exact ⟨rfl, HF.out, hbel⟩
end Go.Proofs.Yticdgpgbpgjnbaa
