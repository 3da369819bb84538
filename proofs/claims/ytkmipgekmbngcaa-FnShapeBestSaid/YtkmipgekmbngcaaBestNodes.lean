/- The nodes of a paragraph: -1 and all items; the stops among them. No program. No condition. -/
import Derived.Test.YtkmipgekmbngcaaMSb0
import Derived.Test.YtkmipgekmbngcaaBestBreaks
import Derived.Test.YtkmipgekmbngcaaMSb7
namespace Go.Proofs.Ytkmipgekmbngcaa

def ndP (xs : List It) (k : Nat) : Bool := (k == 0) || brk xs (k - 1)
theorem ndC_no {xs : List It} {d tol : Int} (k i : Nat) (h : ndP xs k = false) : ndC xs d tol k i = none := by
  rcases k with _ | k
  · cases h
  · have hb : brk xs k = false := by simpa [ndP] using h
    rw [ndC, show ((k + 1 : Nat) : Int) - 1 = (k : Int) by omega]
    exact lc_line (ln_f hb)
theorem ndP_zero (xs : List It) : ndP xs 0 = true := rfl
theorem sts_eq (xs : List It) (n : Nat) : Dp.sts (ndP xs) (n + 1) = 0 :: ((List.range n).filter (brk xs)).map Nat.succ := by
  rw [Dp.sts, List.range_succ_eq_map, List.filter_cons_of_pos (ndP_zero xs), List.filter_map]
  congr 2
theorem stps_eq {xs : List It} {n : Nat} (hok : itemsOk xs = true) (hn : xs.length = n) : stps xs = (Dp.sts (ndP xs) (n + 1)).map fun (k : Nat) => (k : Int) - 1 := by
  rw [sts_eq, stps, brksV_yes hok hn, brksP]
  simp only [List.map_cons, List.map_map]
  show (-1 : Int) :: _ = (-1 : Int) :: _
  congr 1
  apply List.map_congr_left
  intro i _
  show (i : Int) = ((i + 1 : Nat) : Int) - 1
  omega
/-- Tables of equal costs are equal. -/
theorem tbl_congr {c c' : Nat → Nat → Option Int} {n : Nat} (h : ∀ k i, k < i → i ≤ n → c k i = c' k i) : ∀ i, i ≤ n → Dp.tbl c i = Dp.tbl c' i := by
  intro i
  induction i using Nat.strongRecOn with
  | _ i ih =>
    intro hi
    rcases Nat.eq_zero_or_pos i with rfl | hp
    · rw [Dp.tbl_zero, Dp.tbl_zero]
    · rw [Dp.tbl_pos _ _ hp, Dp.tbl_pos _ _ hp]
      exact Dp.best_congr fun k hk => ⟨ih k hk (by omega), h k i hk hi⟩
theorem path_congr {c c' : Nat → Nat → Option Int} {n : Nat} (h : ∀ k i, k < i → i ≤ n → c k i = c' k i) : ∀ i, i ≤ n → Dp.tbl c i ≠ none → Dp.path c i = Dp.path c' i := by
  intro i
  induction i using Nat.strongRecOn with
  | _ i ih =>
    intro hi ht
    rcases Nat.eq_zero_or_pos i with rfl | hp
    · rw [Dp.path_zero, Dp.path_zero]
    · rcases hs : Dp.tbl c i with _ | ⟨v, k⟩
      · exact absurd hs ht
      · have hs' := hs
        rw [tbl_congr h i hi] at hs'
        obtain ⟨hk, u, k', s, h1, _, _⟩ := Dp.tbl_some hp hs
        rw [Dp.path_pos hp hs, Dp.path_pos hp hs', ih k hk (by omega) (by rw [h1]; intro e; cases e)]
theorem path_le {c : Nat → Nat → Option Int} : ∀ i, Dp.tbl c i ≠ none → ∀ k ∈ Dp.path c i, k ≤ i := by
  intro i
  induction i using Nat.strongRecOn with
  | _ i ih =>
    intro ht k hk
    rcases Nat.eq_zero_or_pos i with rfl | hp
    · rw [Dp.path_zero] at hk; cases hk
    · rcases hs : Dp.tbl c i with _ | ⟨v, j⟩
      · exact absurd hs ht
      · obtain ⟨hj, u, k', s, h1, _, _⟩ := Dp.tbl_some hp hs
        rw [Dp.path_pos hp hs, List.mem_append, List.mem_singleton] at hk
        rcases hk with hk | hk
        · have := ih j hj (by rw [h1]; intro e; cases e) k hk
          omega
        · omega
theorem last_brk {xs : List It} {n : Nat} (hok : itemsOk xs = true) (hn : xs.length = n) : ndP xs n = true := by
  have h1 := itemsOk_last hok hn
  have h2 := (itemsOk_len hok hn).1
  simp only [forced, Bool.and_eq_true, beq_iff_eq] at h1
  have h3 : brk xs (n - 1) = true := by rw [brk, kd, if_pos h1.1, h1.2]; rfl
  rw [ndP, h3, Bool.or_true]
/-- BestBreaks in terms of the nodes. -/
theorem bbV_nodes {xs : List It} {n : Nat} {d tol : Int} (hok : itemsOk xs = true) (hn : xs.length = n) (hw : widthOk d = true) (ht : inR tol 0 10000 = true) :
    bbV xs d tol = match Dp.tbl (ndC xs d tol) n with
      | none => ([], 0, false)
      | some (v, _) => ((Dp.path (ndC xs d tol) n).map (fun (k : Nat) => (k : Int) - 1), v, true) := by
  have hp := last_brk hok hn
  have hst := stps_eq hok hn
  have hlen : (Dp.sts (ndP xs) (n + 1)).length = Dp.rk (ndP xs) n + 1 := Dp.rk_yes hp
  have hbl : (brksV xs).length = Dp.rk (ndP xs) n := by
    have h1 := stps_len xs
    rw [hst, List.length_map, hlen] at h1
    omega
  have hget : ∀ k, k ≤ Dp.rk (ndP xs) n → (stps xs).getD k default = (((Dp.sts (ndP xs) (n + 1)).getD k 0 : Nat) : Int) - 1 := by
    intro k hk
    rw [hst, List.getD_eq_getElem?_getD, List.getD_eq_getElem?_getD, List.getElem?_map, List.getElem?_eq_getElem (by omega)]
    rfl
  have hcc : ∀ k i, k < i → i ≤ Dp.rk (ndP xs) n → stC xs d tol k i = (fun k i => ndC xs d tol ((Dp.sts (ndP xs) (n + 1)).getD k 0) ((Dp.sts (ndP xs) (n + 1)).getD i 0)) k i := by
    intro k i hk hi
    show lc _ _ _ _ _ = lc _ _ _ _ _
    rw [hget k (by omega), hget i hi]
  have hT := Dp.tbl_stops (n + 1) (fun k i h => ndC_no (xs := xs) (d := d) (tol := tol) k i h) (ndP_zero xs) n (by omega) hp
  have hTC := tbl_congr hcc _ (Nat.le_refl _)
  have hval : bbV xs d tol = pathV (stC xs d tol) (stps xs) (Dp.rk (ndP xs) n) := by rw [bbV, hok, hw, ht, hbl]; rfl
  rw [hval, pathV, hTC]
  rw [← hTC] at hT ⊢
  rcases hs : Dp.tbl (stC xs d tol) (Dp.rk (ndP xs) n) with _ | ⟨v, k⟩
  · rw [hs] at hT
    rw [hT]
    rfl
  · rw [hs] at hT
    have hne : Dp.tbl (ndC xs d tol) n ≠ none := by rw [hT]; intro e; cases e
    have hP := Dp.path_stops (n + 1) (fun k i h => ndC_no (xs := xs) (d := d) (tol := tol) k i h) (ndP_zero xs) n (by omega) hp hne
    have hPC := path_congr hcc _ (Nat.le_refl _) (by rw [hs]; intro e; cases e)
    rw [hT]
    show ((Dp.path (stC xs d tol) (Dp.rk (ndP xs) n)).map _, v, true) = ((Dp.path (ndC xs d tol) n).map _, v, true)
    rw [hP, ← hPC, List.map_map]
    congr 1
    apply List.map_congr_left
    intro i hi
    exact hget i (path_le _ (by rw [hs]; intro e; cases e) i hi)
end Go.Proofs.Ytkmipgekmbngcaa
