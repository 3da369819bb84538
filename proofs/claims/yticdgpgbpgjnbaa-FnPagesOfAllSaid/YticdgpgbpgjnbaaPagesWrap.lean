/- The functions on pages, their results named. Conditions: the slices read as lists. -/
import Derived.Test.YticdgpgbpgjnbaaPagesDraw
import Derived.Test.YticdgpgbpgjnbaaEq
import Derived.Test.YticdgpgbpgjnbaaLastInt
namespace Go.Proofs.Yticdgpgbpgjnbaa
open Go.RowKit

section
variable {A B : Option Addr} {n cap m cap' : Nat} {h : Int} {xs : List Ln} {ys : List Int} {w : World}
theorem best_iw (hn : xs.length = n) (hm : n ≤ maxLen) (hcap : n ≤ cap ∧ cap ≤ maxLen) {v : Int} {ok : Bool} (hb : bestV xs h = (ys, v, ok)) (hy : ys.length = m) (hr : Row w w.heap.size 3 A n (lnc xs)) :
    Calls Try.prog 33 #[.slice A n cap, .int .i64 h] w (BOut w ys v ok m) := (best_i _ _ _ _ _ _ hn hm hcap hr).mono fun _ _ k => bout_of hb hy k
theorem best_sw (hn : xs.length = n) (hm : n ≤ maxLen) {v : Int} {ok : Bool} (hb : bestV xs h = (ys, v, ok)) (hy : ys.length = m) (hr : Row w w.heap.size 3 A n (lnc xs)) :
    Calls Try.prog 35 #[.slice A n cap, .int .i64 h] w (BOut w ys v ok m) := (best_s _ _ _ _ _ _ hn hm hr).mono fun _ _ k => bout_of hb hy k
theorem check_iw (hn : xs.length = n) (hm : n ≤ maxLen) (hcap : n ≤ cap ∧ cap ≤ maxLen) (hn' : ys.length = m) (hm' : m ≤ maxLen) {v : Int} {ok : Bool} (hc : checkV xs h ys = (v, ok)) (hr : Row w w.heap.size 3 A n (lnc xs)) (hr' : Row w w.heap.size 1 B m (inc ys)) :
    Calls Try.prog 31 #[.slice A n cap, .int .i64 h, .slice B m cap'] w fun e w' => e = .returned (.tuple #[.int .i64 v, .bool ok]) ∧ Below w.heap.size w w' := by
  have := checkV_i A B n cap m cap' h xs ys w hn hm hcap hr hn' hm' hr'
  rwa [hc] at this
theorem check_sw (hn : xs.length = n) (hm : n ≤ maxLen) (hn' : ys.length = m) (hm' : m ≤ maxLen) {v : Int} {ok : Bool} (hc : checkV xs h ys = (v, ok)) (hr : Row w w.heap.size 3 A n (lnc xs)) (hr' : Row w w.heap.size 1 B m (inc ys)) :
    Calls Try.prog 29 #[.slice A n cap, .int .i64 h, .slice B m cap'] w fun e w' => e = .returned (.tuple #[.int .i64 v, .bool ok]) ∧ Below w.heap.size w w' := by
  have := checkV_s A B n cap m cap' h xs ys w hn hm hr hn' hm' hr'
  rwa [hc] at this
/-- What a call leaves that fills pages. -/
def FOut (w : World) (ys : List Int) (ok : Bool) (m : Nat) (e : Ending) (w' : World) : Prop := ∃ (A : Option Addr) (d : Nat), e = .returned (.tuple #[.slice A m d, .bool ok]) ∧ OwnI w' w.heap.size A m d ys ∧ Below w.heap.size w w'
theorem fout_of {w : World} {ys : List Int} {ok : Bool} {m : Nat} {r : List Int × Bool} (hr : r = (ys, ok)) (hm : ys.length = m) {e : Ending} {w' : World} (h : IntsBool w r.1 r.2 e w') : FOut w ys ok m e w' := by
  subst hr
  obtain ⟨A, d, h1, h2, h3⟩ := h
  simp only at h1 h2
  rw [hm] at h1 h2
  exact ⟨A, d, h1, h2, h3⟩
theorem fill_iw (hn : xs.length = n) (hm : n ≤ maxLen) (hcap : n ≤ cap ∧ cap ≤ maxLen) {ok : Bool} (hf : fillV xs h = (ys, ok)) (hy : ys.length = m) (hr : Row w w.heap.size 3 A n (lnc xs)) :
    Calls Try.prog 24 #[.slice A n cap, .int .i64 h] w (FOut w ys ok m) := (fill_i _ _ _ _ _ _ hn hm hcap hr).mono fun _ _ k => fout_of hf hy k
theorem fill_sw (hn : xs.length = n) (hm : n ≤ maxLen) {ok : Bool} (hf : fillV xs h = (ys, ok)) (hy : ys.length = m) (hr : Row w w.heap.size 3 A n (lnc xs)) :
    Calls Try.prog 23 #[.slice A n cap, .int .i64 h] w (FOut w ys ok m) := (fill_s _ _ _ _ _ _ hn hm hr).mono fun _ _ k => fout_of hf hy k
end
theorem best_last {xs : List Ln} {h : Int} {n : Nat} (hn : xs.length = n) {ys : List Int} {v : Int} (hb : bestV xs h = (ys, v, true)) : lastOf ys = (n : Int) := by
  have hv := (best_check hn hb).1
  have hl := linesOk_len (paging_iff hv).1
  rcases best_cases hn hv with ⟨_, e⟩ | ⟨u, k, ht, e⟩
  · rw [e] at hb; cases hb
  · rw [e] at hb
    cases hb
    rw [Dp.path_pos (by omega) ht, ints, List.map_append]
    unfold lastOf
    rw [if_neg (by simp), List.getD_eq_getElem?_getD]
    simp
theorem fillV_len41 (xs : List Ln) (h : Int) : (fillV xs h).1.length ≤ 41 := by
  rcases hf : fillV xs h with ⟨ys, ok⟩
  rcases ok with _ | _
  · rcases hv : pagingOk xs h with _ | _
    · rw [fill_bad hv] at hf; cases hf; simp
    · rcases ho : fillR xs h xs.length 0 [] 0 with _ | o
      · rw [fill_no rfl ho] at hf; cases hf; simp
      · rw [fill_yes rfl hv ho] at hf; cases hf
  · obtain ⟨s, hs⟩ := fill_check rfl hf
    obtain ⟨zs, v, hb, _⟩ := best_least rfl hs
    have h1 := (best_check rfl hb).2.2
    have h2 := fill_least rfl hf h1
    have h3 := bestV_len xs h
    rw [hb] at h3
    simp only at h3 ⊢
    omega
end Go.Proofs.Yticdgpgbpgjnbaa
