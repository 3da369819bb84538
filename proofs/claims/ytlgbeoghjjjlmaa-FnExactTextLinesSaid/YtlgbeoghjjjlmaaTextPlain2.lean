/- Storing into the third cell of a line of a row of lines. No program. -/
import Derived.Test.YtlgbeoghjjjlmaaTextPlain
namespace Go.Proofs.Ytlgbeoghjjjlmaa

theorem lnl_setC (L : List Ln) : ∀ (i : Nat), i < L.length → ∀ v : Int, (L.flatMap lnl).set (i * 3 + 2) (.int .i64 v) = (L.set i ⟨(L.getD i default).a, (L.getD i default).b, v⟩).flatMap lnl := by
  induction L with
  | nil => intro i hi; simp at hi
  | cons y r ih =>
    intro i hi v
    cases i with
    | zero => simp [lnl]
    | succ i =>
      have := ih i (by simpa using hi) v
      rw [List.flatMap_cons, List.set_append_right _ _ (by rw [lnl_len]; omega), lnl_len, show (i + 1) * 3 + 2 - 3 = i * 3 + 2 by omega, this]
      simp
theorem set_base {α : Type} (B r : List α) (k : Nat) (v : α) : (B ++ r).set (B.length + k) v = B ++ r.set k v := by
  rw [List.set_append_right _ _ (by omega)]; simp
theorem parL_two (h : Int) : ((List.replicate 2 (⟨h, 0, 0⟩ : Ln)).set 0 ⟨h, 0, 100⟩).set 0 ⟨h, 0, 250⟩ = parL h 2 2 := by simp [parL, penAt, List.range_succ]
theorem parL_one (h : Int) : List.replicate 1 (⟨h, 0, 0⟩ : Ln) = parL h 1 1 := by simp [parL, penAt]
theorem parL_many (h : Int) (n : Nat) (hn : 2 < n) : ((List.replicate n (⟨h, 0, 0⟩ : Ln)).set 0 ⟨h, 0, 100⟩).set (n - 2) ⟨h, 0, 150⟩ = parL h n n := by
  apply List.ext_getElem
  · simp [parL]
  · intro i h1 h2
    simp only [List.length_set, List.length_replicate] at h1
    simp only [parL, List.getElem_map, List.getElem_range, List.getElem_set, List.getElem_replicate]
    by_cases a : n - 2 = i
    · rw [if_pos a, pen_last (n : Int) i (by omega) (by omega)]
    · rw [if_neg a]
      by_cases b : 0 = i
      · subst b
        rw [if_pos rfl, pen_first (n : Int) (by omega) (by omega)]
      · rw [if_neg b, pen_none (n : Int) i (by omega) (by omega)]
end Go.Proofs.Ytlgbeoghjjjlmaa
