/- The best pages, in plain terms: what they cost, that they are checked, that none are better, that filled pages are the fewest. No program. Conditions: the lines and the height are valid where it says so. -/
import Derived.Test.YticdgpgbpgjnbaaDp
import Derived.Test.YticdgpgbpgjnbaaCheckPages
import Derived.Test.YticdgpgbpgjnbaaFillPages
namespace Go.Proofs.Yticdgpgbpgjnbaa

def ints (l : List Nat) : List Int := l.map fun k : Nat => (k : Int)
/-- What a search for the cheapest way to stop n gives. -/
def bestOut (c : Nat → Nat → Option Int) (n : Nat) : List Int × Int × Bool := match Dp.tbl c n with
  | none => ([], 0, false)
  | some (v, _) => (ints (Dp.path c n), v, true)
theorem bestOut_none {c : Nat → Nat → Option Int} {n : Nat} (h : Dp.tbl c n = none) : bestOut c n = ([], 0, false) := by rw [bestOut, h]
theorem bestOut_some {c : Nat → Nat → Option Int} {n : Nat} {v : Int} {k : Nat} (h : Dp.tbl c n = some (v, k)) : bestOut c n = (ints (Dp.path c n), v, true) := by rw [bestOut, h]
def bestV (xs : List Ln) (h : Int) : List Int × Int × Bool := if pagingOk xs h then bestOut (pageC xs h) xs.length else ([], 0, false)
theorem best_bad {xs : List Ln} {h : Int} (hv : pagingOk xs h = false) : bestV xs h = ([], 0, false) := by simp [bestV, hv]
theorem best_ok {xs : List Ln} {h : Int} {n : Nat} (hn : xs.length = n) (hv : pagingOk xs h = true) : bestV xs h = bestOut (pageC xs h) n := by rw [bestV, if_pos hv, hn]

theorem aSum_append (l r : List Ln) : aSum (l ++ r) = aSum l + aSum r := by
  have key : ∀ (r : List Ln) (s : Int), r.foldl (fun s x => s + x.a) s = s + r.foldl (fun s x => s + x.a) 0 := by
    intro r
    induction r with
    | nil => intro s; simp
    | cons x r ih => intro s; rw [List.foldl_cons, List.foldl_cons, ih (s + x.a), ih (0 + x.a)]; omega
  unfold aSum
  rw [List.foldl_append, key]
theorem bSum_append (l r : List Ln) : bSum (l ++ r) = bSum l + bSum r := by
  have key : ∀ (r : List Ln) (s : Int), r.foldl (fun s x => s + x.b) s = s + r.foldl (fun s x => s + x.b) 0 := by
    intro r
    induction r with
    | nil => intro s; simp
    | cons x r ih => intro s; rw [List.foldl_cons, List.foldl_cons, ih (s + x.b), ih (0 + x.b)]; omega
  unfold bSum
  rw [List.foldl_append, key]
theorem seg_split {xs : List Ln} {n f g t : Nat} (hn : xs.length = n) (h1 : f ≤ g) (h2 : g ≤ t) (h3 : t ≤ n) : seg xs f t = seg xs f g ++ seg xs g t := by
  have e : xs.take t = xs.take g ++ (xs.take t).drop g := by
    have := (List.take_append_drop g (xs.take t)).symm
    rw [List.take_take, Nat.min_eq_left h2] at this
    exact this
  show (xs.take t).drop f = (xs.take g).drop f ++ (xs.take t).drop g
  rw [e, List.drop_append_of_le_length (by simp; omega)]
  rw [← e]
theorem rule_mono {a b a' b' : Int} (h1 : a ≤ a') (h2 : b ≤ b') : rule a b ≤ rule a' b' := by
  unfold rule
  split <;> split <;> omega
theorem pageH_mono {xs : List Ln} {n f g t u : Nat} (h : linesOk xs = true) (hn : xs.length = n) (h1 : f ≤ g) (h2 : g ≤ t) (h3 : t ≤ u) (h4 : u ≤ n) : pageH (seg xs g t) ≤ pageH (seg xs f u) := by
  have e : seg xs f u = seg xs f g ++ (seg xs g t ++ seg xs t u) := by
    rw [seg_split hn h1 (show g ≤ u by omega) h4, seg_split hn h2 h3 h4]
  have s1 := sums_bound (lineOk_seg h f g)
  have s2 := sums_bound (lineOk_seg h t u)
  rw [e]
  unfold pageH
  rw [aSum_append, aSum_append, bSum_append, bSum_append]
  exact rule_mono (by omega) (by omega)
theorem pageC_isSome {xs : List Ln} {h : Int} {f t : Nat} : (∃ s, pageC xs h f t = some s) ↔ pageH (seg xs f t) ≤ h := by
  unfold pageC
  constructor
  · rintro ⟨s, hs⟩
    split at hs
    · cases hs
    · omega
  · intro hp
    rw [if_neg (by omega)]
    split
    · exact ⟨_, rfl⟩
    · exact ⟨_, rfl⟩

theorem tbl_range {c : Nat → Nat → Option Int} {M : Int} {n : Nat} (hM : 0 ≤ M) (hc : ∀ k i s, k < i → i ≤ n → c k i = some s → 0 ≤ s ∧ s ≤ M) (i : Nat) :
    i ≤ n → ∀ v k, Dp.tbl c i = some (v, k) → 0 ≤ v ∧ v ≤ i * M := by
  induction i using Nat.strongRecOn with
  | _ i ih =>
    intro hin v k h
    rcases Nat.eq_zero_or_pos i with rfl | hi
    · rw [Dp.tbl_zero] at h; cases h; simp
    · obtain ⟨hk, u, k', s, h1, h2, rfl⟩ := Dp.tbl_some hi h
      obtain ⟨a1, a2⟩ := ih k hk (by omega) u k' h1
      obtain ⟨b1, b2⟩ := hc k i s hk hin h2
      have hle : (k : Int) * M + M ≤ i * M := by
        have : ((k + 1 : Nat) : Int) * M ≤ i * M := Int.mul_le_mul_of_nonneg_right (by omega) hM
        rw [Int.natCast_add, Int.add_mul] at this
        simpa using this
      exact ⟨by omega, by omega⟩

section
variable {xs : List Ln} {h : Int} {n : Nat}
/-- The best pages are checked, and cost what the table says. -/
theorem ck_path (hn : xs.length = n) (i : Nat) : i ≤ n → ∀ v k, Dp.tbl (pageC xs h) i = some (v, k) → ckF xs h (ints (Dp.path (pageC xs h) i)) = some (i, v) := by
  induction i using Nat.strongRecOn with
  | _ i ih =>
    intro hi v k ht
    rcases Nat.eq_zero_or_pos i with rfl | hp
    · rw [Dp.tbl_zero] at ht; cases ht; rfl
    · obtain ⟨hk, u, k', s, h1, h2, rfl⟩ := Dp.tbl_some hp ht
      have e := ih k hk (by omega) u k' h1
      rw [Dp.path_pos hp ht]
      simp only [ints, List.map_append, List.map_cons, List.map_nil] at e ⊢
      rw [ckF_snoc, e]
      show (if _ then _ else _) = _
      rw [if_neg (by simp only; omega), Int.toNat_natCast]
      show (pageC xs h k i).map _ = _
      rw [h2]
      rfl
/-- No checked pages are cheaper. -/
theorem ck_best (l : List Int) : ∀ j, j ≤ l.length → ∀ i s, ckF xs h (l.take j) = some (i, s) → ∃ v f, Dp.tbl (pageC xs h) i = some (v, f) ∧ v ≤ s := by
  intro j
  induction j with
  | zero =>
    intro _ i s hs
    have : some ((0 : Nat), (0 : Int)) = some (i, s) := hs
    injection this with this
    injection this with e1 e2
    subst e1 e2
    exact ⟨0, 0, Dp.tbl_zero _, Int.le_refl _⟩
  | succ j ih =>
    intro hj i s hs
    rw [tk_snoc l j (by omega), ckF_snoc] at hs
    rcases hp : ckF xs h (l.take j) with _ | ⟨q, t⟩
    · rw [hp] at hs; cases hs
    · rw [hp] at hs
      obtain ⟨v, f, h1, h2⟩ := ih (by omega) q t hp
      obtain ⟨e, he⟩ : ∃ e, l.getD j default = e := ⟨_, rfl⟩
      rw [he] at hs
      have hs' : (if e ≤ (q : Int) ∨ (xs.length : Int) < e then none else (pageC xs h q e.toNat).map fun c => (e.toNat, t + c)) = some (i, s) := hs
      by_cases hb : e ≤ (q : Int) ∨ (xs.length : Int) < e
      · rw [if_pos hb] at hs'; cases hs'
      · rw [if_neg hb] at hs'
        rcases hc : pageC xs h q e.toNat with _ | c
        · rw [hc] at hs'; cases hs'
        · rw [hc] at hs'
          simp only [Option.map_some, Option.some.injEq, Prod.mk.injEq] at hs'
          obtain ⟨rfl, rfl⟩ := hs'
          obtain ⟨v2, f2, h3, h4⟩ := Dp.tbl_le (c := pageC xs h) (k := q) (i := e.toNat) (by omega) h1 hc
          exact ⟨v2, f2, h3, by omega⟩
theorem pageC_rng (hn : xs.length = n) (hv : pagingOk xs h = true) : ∀ k i s, k < i → i ≤ n → pageC xs h k i = some s → 0 ≤ s ∧ s ≤ 100001000 := by
  intro k i s h1 h2 h3
  obtain ⟨g1, g2, g3⟩ := paging_iff hv
  exact pageC_bound g1 hn g3 h1 h2 h3
theorem tblP_rng (hn : xs.length = n) (hv : pagingOk xs h = true) (i : Nat) (hi : i ≤ n) (v : Int) (k : Nat) (ht : Dp.tbl (pageC xs h) i = some (v, k)) : 0 ≤ v ∧ v ≤ 4000040000 := by
  have := tbl_range (M := 100001000) (by omega) (pageC_rng hn hv) i hi v k ht
  have h2 := (linesOk_len (paging_iff hv).1).2
  omega
theorem path_len (c : Nat → Nat → Option Int) (i : Nat) : ∀ v k, Dp.tbl c i = some (v, k) → (Dp.path c i).length ≤ i := by
  induction i using Nat.strongRecOn with
  | _ i ih =>
    intro v k ht
    rcases Nat.eq_zero_or_pos i with rfl | hp
    · simp [Dp.path_zero]
    · obtain ⟨hk, u, k', s, h1, _, _⟩ := Dp.tbl_some hp ht
      rw [Dp.path_pos hp ht, List.length_append]
      have := ih k hk u k' h1
      simp only [List.length_cons, List.length_nil]
      omega
theorem best_cases (hn : xs.length = n) (hv : pagingOk xs h = true) : (Dp.tbl (pageC xs h) n = none ∧ bestV xs h = ([], 0, false)) ∨ ∃ v k, Dp.tbl (pageC xs h) n = some (v, k) ∧ bestV xs h = (ints (Dp.path (pageC xs h) n), v, true) := by
  rcases ht : Dp.tbl (pageC xs h) n with _ | ⟨v, k⟩
  · exact .inl ⟨rfl, by rw [best_ok hn hv, bestOut_none ht]⟩
  · exact .inr ⟨v, k, rfl, by rw [best_ok hn hv, bestOut_some ht]⟩
theorem bestV_len (xs : List Ln) (h : Int) : (bestV xs h).1.length ≤ 40 := by
  rcases hv : pagingOk xs h with _ | _
  · rw [best_bad hv]; simp
  rcases best_cases rfl hv with ⟨_, e⟩ | ⟨v, k, ht, e⟩
  · rw [e]; simp
  · rw [e]
    have h1 := path_len _ _ _ _ ht
    have h2 := (linesOk_len (paging_iff hv).1).2
    simp only [ints, List.length_map]
    omega
theorem bestV_rng (xs : List Ln) (h : Int) : 0 ≤ (bestV xs h).2.1 ∧ (bestV xs h).2.1 ≤ 4000040000 := by
  rcases hv : pagingOk xs h with _ | _
  · rw [best_bad hv]; simp
  rcases best_cases rfl hv with ⟨_, e⟩ | ⟨v, k, ht, e⟩
  · rw [e]; simp
  · rw [e]
    exact tblP_rng rfl hv _ (Nat.le_refl _) v k ht
/-- The best pages are checked. -/
theorem best_check (hn : xs.length = n) {ys : List Int} {v : Int} (hb : bestV xs h = (ys, v, true)) : pagingOk xs h = true ∧ checkV xs h ys = (v, true) ∧ ckF xs h ys = some (n, v) := by
  rcases hv : pagingOk xs h with _ | _
  · rw [best_bad hv] at hb; cases hb
  rcases best_cases hn hv with ⟨_, e⟩ | ⟨u, k, ht, e⟩
  · rw [e] at hb; cases hb
  · rw [e] at hb
    cases hb
    have hc := ck_path hn n (Nat.le_refl _) v k ht
    exact ⟨rfl, by rw [check_end hn hv hc, if_pos rfl], hc⟩
/-- Whatever pages are checked: there are best ones, and they are no dearer. -/
theorem best_least (hn : xs.length = n) {l : List Int} {s : Int} (hc : checkV xs h l = (s, true)) : ∃ ys v, bestV xs h = (ys, v, true) ∧ v ≤ s := by
  rcases hv : pagingOk xs h with _ | _
  · rw [check_bad hv] at hc; cases hc
  rcases hk : ckF xs h l with _ | ⟨i, t⟩
  · rw [check_none hk] at hc; cases hc
  rw [check_end hn hv hk] at hc
  by_cases e : i = n
  · rw [if_pos e] at hc
    subst e
    cases hc
    obtain ⟨v, f, h1, h2⟩ := ck_best l l.length (Nat.le_refl _) i s (by rw [List.take_length]; exact hk)
    exact ⟨_, v, by rw [best_ok hn hv, bestOut_some h1], h2⟩
  · rw [if_neg e] at hc; cases hc

/-! The pages that are filled. -/
theorem fillR_some : ∀ (d k : Nat) (out : List Int) (f : Nat), (∀ j, k ≤ j → j < k + d → pageH (seg xs j (j + 1)) ≤ h) → ∃ o, fillR xs h d k out f = some o := by
  intro d
  induction d with
  | zero => intro k out f _; exact ⟨out, rfl⟩
  | succ d ih =>
    intro k out f hj
    have h1 := hj k (Nat.le_refl _) (by omega)
    unfold fillR
    rw [if_neg (by omega)]
    split
    · exact ih _ _ _ fun j a b => hj j (by omega) (by omega)
    · exact ih _ _ _ fun j a b => hj j (by omega) (by omega)
theorem fillR_fits : ∀ (d k : Nat) (out : List Int) (f : Nat) (o : List Int), fillR xs h d k out f = some o → ∀ j, k ≤ j → j < k + d → pageH (seg xs j (j + 1)) ≤ h := by
  intro d
  induction d with
  | zero => intro k out f o _ j a b; omega
  | succ d ih =>
    intro k out f o ho j a b
    unfold fillR at ho
    split at ho
    · cases ho
    · by_cases e : j = k
      · subst e; omega
      · split at ho
        · exact ih _ _ _ _ ho j (by omega) (by omega)
        · exact ih _ _ _ _ ho j (by omega) (by omega)
theorem tbl_fits (hok : linesOk xs = true) (hn : xs.length = n) (i : Nat) : i ≤ n → ∀ v k, Dp.tbl (pageC xs h) i = some (v, k) → ∀ j, j < i → pageH (seg xs j (j + 1)) ≤ h := by
  induction i using Nat.strongRecOn with
  | _ i ih =>
    intro hi v k ht j hj
    obtain ⟨hk, u, k', s, h1, h2, _⟩ := Dp.tbl_some (by omega) ht
    rcases Nat.lt_or_ge j k with hlt | hge
    · exact ih k hk (by omega) u k' h1 j hlt
    · have a := pageC_isSome.1 ⟨s, h2⟩
      have b := pageH_mono hok hn hge (show j ≤ j + 1 by omega) (show j + 1 ≤ i by omega) hi
      omega
theorem fits_tbl (hfit : ∀ j, j < n → pageH (seg xs j (j + 1)) ≤ h) : ∀ i, i ≤ n → ∃ v k, Dp.tbl (pageC xs h) i = some (v, k) := by
  intro i
  induction i with
  | zero => intro _; exact ⟨0, 0, Dp.tbl_zero _⟩
  | succ i ih =>
    intro hi
    obtain ⟨u, k, h1⟩ := ih (by omega)
    obtain ⟨s, hs⟩ := pageC_isSome.2 (hfit i (by omega))
    obtain ⟨v, f, h2, _⟩ := Dp.tbl_le (c := pageC xs h) (k := i) (i := i + 1) (by omega) h1 hs
    exact ⟨v, f, h2⟩
/-- Pages can be filled exactly if there are best ones. -/
theorem fill_possible (xs : List Ln) (h : Int) : (fillV xs h).2 = (bestV xs h).2.2 := by
  rcases hv : pagingOk xs h with _ | _
  · rw [best_bad hv, fill_bad hv]
  have hok := (paging_iff hv).1
  rcases best_cases rfl hv with ⟨ht, e⟩ | ⟨v, k, ht, e⟩
  · rcases hf : fillR xs h xs.length 0 [] 0 with _ | o
    · rw [e, fill_no rfl hf]
    · obtain ⟨v, k, h2⟩ := fits_tbl (fun j hj => fillR_fits _ _ _ _ _ hf j (by omega) (by omega)) xs.length (Nat.le_refl _)
      rw [ht] at h2; cases h2
  · obtain ⟨o, ho⟩ := fillR_some (xs := xs) (h := h) xs.length 0 [] 0 (fun j _ hj => tbl_fits hok rfl _ (Nat.le_refl _) v k ht j (by omega))
    rw [e, fill_yes rfl hv ho]
/-- What is filled is checked. -/
theorem fill_ck (hok : linesOk xs = true) (hn : xs.length = n) : ∀ (d k : Nat) (out : List Int) (f : Nat) (s : Int) (o : List Int), k + d = n → f ≤ k → pageH (seg xs f k) ≤ h → ckF xs h out = some (f, s) → (k < n ∨ f < n) → fillR xs h d k out f = some o → ∃ f' s', f' < n ∧ pageH (seg xs f' n) ≤ h ∧ ckF xs h o = some (f', s') := by
  intro d
  induction d with
  | zero =>
    intro k out f s o hk hf hp hc hlt ho
    injection ho with ho
    subst ho
    obtain rfl : k = n := by omega
    exact ⟨f, s, by omega, hp, hc⟩
  | succ d ih =>
    intro k out f s o hk hf hp hc hlt ho
    unfold fillR at ho
    split at ho
    · cases ho
    · rename_i h1
      split at ho
      · rename_i h2
        have hne : f ≠ k := by rintro rfl; omega
        obtain ⟨c, hcc⟩ := pageC_isSome.2 hp
        refine ih (k + 1) _ k (s + c) o (by omega) (by omega) (by omega) ?_ (by omega) ho
        rw [ckF_snoc, hc]
        show (if _ then _ else _) = _
        rw [if_neg (by simp only; omega), Int.toNat_natCast]
        show (pageC xs h f k).map _ = _
        rw [hcc]
        rfl
      · rename_i h2
        exact ih (k + 1) _ f s o (by omega) (by omega) (by omega) hc (by omega) ho
theorem fill_check (hn : xs.length = n) {ys : List Int} (hf : fillV xs h = (ys, true)) : ∃ s, checkV xs h ys = (s, true) := by
  rcases hv : pagingOk xs h with _ | _
  · rw [fill_bad hv] at hf; cases hf
  have hok := (paging_iff hv).1
  have hl := linesOk_len hok
  rcases ho : fillR xs h n 0 [] 0 with _ | o
  · rw [fill_no hn ho] at hf; cases hf
  rw [fill_yes hn hv ho] at hf
  cases hf
  have h0 : pageH (seg xs 0 0) ≤ h := by
    rw [seg_nil]
    have := (paging_iff hv).2
    show rule 0 0 ≤ h
    unfold rule
    rw [if_neg (by omega)]
    omega
  obtain ⟨f, s, h1, h2, h3⟩ := fill_ck hok hn n 0 [] 0 0 o (by omega) (by omega) h0 rfl (by omega) ho
  obtain ⟨c, hc⟩ := pageC_isSome.2 h2
  refine ⟨s + c, ?_⟩
  have h4 : ckF xs h (o ++ [(n : Int)]) = some (n, s + c) := by
    rw [ckF_snoc, h3]
    show (if _ then _ else _) = _
    rw [if_neg (by simp only; omega), Int.toNat_natCast]
    show (pageC xs h f n).map _ = _
    rw [hc]
    rfl
  rw [check_end hn hv h4, if_pos rfl]
/-- The ends of whatever checked pages, before and behind the filled ones. -/
theorem fill_few (hok : linesOk xs = true) (hn : xs.length = n) (l : List Int) : ∀ (d k : Nat) (out : List Int) (f : Nat) (o : List Int), k + d = n → f ≤ k → f < n →
    (∀ j b s, j ≤ l.length → ckF xs h (l.take j) = some (b, s) → f < b → out.length + 1 ≤ j) → fillR xs h d k out f = some o →
    ∃ f', f' < n ∧ ∀ j b s, j ≤ l.length → ckF xs h (l.take j) = some (b, s) → f' < b → o.length + 1 ≤ j := by
  intro d
  induction d with
  | zero =>
    intro k out f o hk hf hfn hI ho
    injection ho with ho
    subst ho
    exact ⟨f, hfn, hI⟩
  | succ d ih =>
    intro k out f o hk hf hfn hI ho
    unfold fillR at ho
    split at ho
    · cases ho
    · split at ho
      · rename_i h2
        refine ih (k + 1) _ k o (by omega) (by omega) (by omega) ?_ ho
        intro j b s hj hc hb
        have h3 := hI j b s hj hc (by omega)
        rw [List.length_append, List.length_singleton]
        rcases Nat.lt_or_ge (out.length + 1) j with hlt | hge
        · omega
        · exfalso
          obtain rfl : j = out.length + 1 := by omega
          rw [tk_snoc l _ (by omega), ckF_snoc] at hc
          rcases hp : ckF xs h (l.take out.length) with _ | ⟨q, t⟩
          · rw [hp] at hc; cases hc
          · rw [hp] at hc
            obtain ⟨e, he⟩ : ∃ e, l.getD out.length default = e := ⟨_, rfl⟩
            rw [he] at hc
            have hc' : (if e ≤ (q : Int) ∨ (xs.length : Int) < e then none else (pageC xs h q e.toNat).map fun c => (e.toNat, t + c)) = some (b, s) := hc
            by_cases hb' : e ≤ (q : Int) ∨ (xs.length : Int) < e
            · rw [if_pos hb'] at hc'; cases hc'
            · rw [if_neg hb'] at hc'
              rcases hcc : pageC xs h q e.toNat with _ | c
              · rw [hcc] at hc'; cases hc'
              · rw [hcc] at hc'
                simp only [Option.map_some, Option.some.injEq, Prod.mk.injEq] at hc'
                obtain ⟨rfl, rfl⟩ := hc'
                have hqf : q ≤ f := by
                  rcases Nat.lt_or_ge f q with hfq | hfq
                  · have := hI out.length q t (by omega) hp hfq
                    omega
                  · exact hfq
                have a := pageC_isSome.1 ⟨c, hcc⟩
                have b := pageH_mono hok hn hqf (show f ≤ k + 1 by omega) (show k + 1 ≤ e.toNat by omega) (by omega)
                omega
      · exact ih (k + 1) _ f o (by omega) (by omega) hfn hI ho
/-- Filled pages are the fewest. -/
theorem fill_least (hn : xs.length = n) {ys zs : List Int} {s : Int} (hf : fillV xs h = (ys, true)) (hc : ckF xs h zs = some (n, s)) : ys.length ≤ zs.length := by
  rcases hv : pagingOk xs h with _ | _
  · rw [fill_bad hv] at hf; cases hf
  have hok := (paging_iff hv).1
  have hl := linesOk_len hok
  rcases ho : fillR xs h n 0 [] 0 with _ | o
  · rw [fill_no hn ho] at hf; cases hf
  rw [fill_yes hn hv ho] at hf
  cases hf
  obtain ⟨f, h1, h2⟩ := fill_few hok hn zs n 0 [] 0 o (by omega) (by omega) (by omega) (fun j b s hj hc hb => by
    rcases Nat.eq_zero_or_pos j with rfl | hp
    · have : some ((0 : Nat), (0 : Int)) = some (b, s) := hc
      cases this
      omega
    · simp; omega) ho
  have := h2 zs.length n s (Nat.le_refl _) (by rw [List.take_length]; exact hc) h1
  simp only [List.length_append, List.length_singleton]
  exact this
/-- A page of the height of all lines has all lines. -/
theorem pages_one (hok : linesOk xs = true) (hn : xs.length = n) (hh : pageH (seg xs 0 n) ≤ 10000) : bestV xs (pageH (seg xs 0 n)) = ([(n : Int)], 0, true) := by
  obtain ⟨h, e⟩ : ∃ h, pageH (seg xs 0 n) = h := ⟨_, rfl⟩
  rw [e] at hh ⊢
  have hl := linesOk_len hok
  rw [hn] at hl
  have hpos : 1 ≤ h := by
    have := seg_bound hok hn (show 0 ≤ n by omega) (Nat.le_refl n) rfl rfl
    rw [← e]
    unfold pageH rule
    split <;> omega
  have hv : pagingOk xs h = true := by
    simp only [pagingOk, widthOk, Bool.and_eq_true, inR_iff]
    exact ⟨hok, hpos, hh⟩
  have hc : pageC xs h 0 n = some 0 := pageC_last hn (by omega) rfl
  have ht0 := Dp.tbl_zero (pageC xs h)
  obtain ⟨v, k, h1, h2⟩ := Dp.tbl_le (c := pageC xs h) (k := 0) (i := n) (by omega) ht0 hc
  have h3 := tblP_rng hn hv n (Nat.le_refl _) v k h1
  obtain rfl : v = 0 := by omega
  have h1' := h1
  rw [Dp.tbl_pos _ _ (by omega)] at h1'
  have h4 := ((Dp.best_spec _ _ _).1 _ _ h1').2.2.2
  have hk : k = 0 := by
    rcases Nat.eq_zero_or_pos k with h | h
    · exact h
    · have := h4 0 (0, 0) 0 h ht0 hc
      simp at this
  subst hk
  rw [best_ok hn hv, bestOut_some h1, Dp.path_pos (by omega) h1, Dp.path_zero]
  rfl
/-- Checked pages: each fits, the cost is not negative, and one page costs nothing. -/
theorem ck_fits (hn : xs.length = n) {l : List Int} {j q : Nat} {t : Int} {r : Nat × Int} (hj : j < l.length) (hp : ckF xs h (l.take j) = some (q, t)) (hc : ckF xs h l = some r) :
    ∃ e : Nat, l.getD j default = (e : Int) ∧ q < e ∧ e ≤ n ∧ pageH (seg xs q e) ≤ h ∧ ∃ c, pageC xs h q e = some c ∧ ckF xs h (l.take (j + 1)) = some (e, t + c) := by
  obtain ⟨e, he⟩ : ∃ e, l.getD j default = e := ⟨_, rfl⟩
  by_cases hb : e ≤ (q : Int) ∨ (n : Int) < e
  · rw [ckF_bad hn rfl hj he hp hb] at hc; cases hc
  · have h1 := ckF_next hn rfl hj he hp hb
    rcases hcc : pageC xs h q e.toNat with _ | c
    · rw [hcc] at h1
      rw [ckF_stop (m := l.length) (j := j) h1] at hc; cases hc
    · rw [hcc] at h1
      refine ⟨e.toNat, by omega, by omega, by omega, pageC_isSome.1 ⟨c, hcc⟩, c, hcc, h1⟩
theorem ck_pos (hn : xs.length = n) (hv : pagingOk xs h = true) (l : List Int) : ∀ j, j ≤ l.length → ∀ i s, ckF xs h (l.take j) = some (i, s) → i ≤ n ∧ 0 ≤ s ∧ s ≤ 100001000 * (i : Int) := by
  intro j
  induction j with
  | zero =>
    intro _ i s hs
    have : some ((0 : Nat), (0 : Int)) = some (i, s) := hs
    cases this
    simp
  | succ j ih =>
    intro hj i s hs
    have hlt : j < (l.take (j + 1)).length := by simp; omega
    rcases hp : ckF xs h (l.take j) with _ | ⟨q, t⟩
    · rw [tk_snoc l j (by omega), ckF_snoc, hp] at hs; cases hs
    · obtain ⟨h1, h2, h3⟩ := ih (by omega) q t hp
      have e1 : (l.take (j + 1)).take j = l.take j := by rw [List.take_take, Nat.min_eq_left (by omega)]
      obtain ⟨e, _, h4, h5, _, c, hc, h6⟩ := ck_fits hn (l := l.take (j + 1)) (j := j) hlt (by rw [e1]; exact hp) hs
      rw [List.take_take, Nat.min_self] at h6
      rw [h6] at hs
      cases hs
      have := pageC_rng hn hv q i c h4 h5 hc
      have hm : (100001000 : Int) * q + 100001000 ≤ 100001000 * i := by omega
      exact ⟨h5, by omega, by omega⟩
theorem check_iff (hn : xs.length = n) {l : List Int} {s : Int} (hc : checkV xs h l = (s, true)) : pagingOk xs h = true ∧ ckF xs h l = some (n, s) := by
  rcases hv : pagingOk xs h with _ | _
  · rw [check_bad hv] at hc; cases hc
  rcases hk : ckF xs h l with _ | ⟨i, t⟩
  · rw [check_none hk] at hc; cases hc
  rw [check_end hn hv hk] at hc
  by_cases e : i = n
  · rw [if_pos e] at hc
    cases hc
    exact ⟨rfl, by rw [e]⟩
  · rw [if_neg e] at hc; cases hc
theorem check_one (hn : xs.length = n) {l : List Int} {s : Int} (hc : checkV xs h l = (s, true)) : 0 ≤ s ∧ (1 < l.length ∨ s = 0) := by
  obtain ⟨hv, hk⟩ := check_iff hn hc
  have hl := linesOk_len (paging_iff hv).1
  have h1 := ck_pos hn hv l l.length (Nat.le_refl _) n s (by rw [List.take_length]; exact hk)
  refine ⟨h1.2.1, ?_⟩
  match l, hk with
  | [], hk =>
    have : some ((0 : Nat), (0 : Int)) = some (n, s) := hk
    cases this
    omega
  | [e], hk =>
    right
    obtain ⟨e', h2, h3, h4, h5, c, hc', h6⟩ := ck_fits hn (l := [e]) (j := 0) (by simp) rfl hk
    have h7 : ckF xs h [e] = some (e', 0 + c) := h6
    rw [h7] at hk
    cases hk
    have hlow := pageC_isSome.1 ⟨c, hc'⟩
    rw [pageC_last hn (by omega) rfl] at hc'
    cases hc'
    rfl
  | _ :: _ :: _, _ => left; simp
end
end Go.Proofs.Yticdgpgbpgjnbaa
