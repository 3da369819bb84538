/- CheckPages, of the program and of the reference, returns what the plain function says. Conditions: the slices read as the lists. -/
import Derived.Test.YticdgpgbpgjnbaaPageCost
namespace Go.Proofs.Yticdgpgbpgjnbaa
open Go.RowKit

def endStep (n : Nat) (a : Option Nat) (e : Int) : Option Nat := a.bind fun l => if e ≤ (l : Int) ∨ (n : Int) < e then none else some e.toNat
def endF (n : Nat) (l : List Int) : Option Nat := l.foldl (endStep n) (some 0)
def ckStep (xs : List Ln) (h : Int) (a : Option (Nat × Int)) (e : Int) : Option (Nat × Int) :=
  a.bind fun p => if e ≤ (p.1 : Int) ∨ (xs.length : Int) < e then none else (pageC xs h p.1 e.toNat).map fun c => (e.toNat, p.2 + c)
def ckF (xs : List Ln) (h : Int) (l : List Int) : Option (Nat × Int) := l.foldl (ckStep xs h) (some (0, 0))
def ckEnd (n : Nat) (r : Option (Nat × Int)) : Int × Bool := match r with
  | none => (0, false)
  | some p => if p.1 = n then (p.2, true) else (0, false)
def checkV (xs : List Ln) (h : Int) (ends : List Int) : Int × Bool := if pagingOk xs h then ckEnd xs.length (ckF xs h ends) else (0, false)

theorem endF_snoc (n : Nat) (l : List Int) (e : Int) : endF n (l ++ [e]) = endStep n (endF n l) e := by simp [endF]
theorem ckF_snoc (xs : List Ln) (h : Int) (l : List Int) (e : Int) : ckF xs h (l ++ [e]) = ckStep xs h (ckF xs h l) e := by simp [ckF]
theorem fold_none {α β : Type} {f : Option α → β → Option α} (hf : ∀ b, f none b = none) (l : List β) : l.foldl f none = none := by
  induction l with
  | nil => rfl
  | cons x r ih => rw [List.foldl_cons, hf, ih]
theorem endF_bad {n m j : Nat} {ys : List Int} {e : Int} {l : Nat} (hn : ys.length = m) (hj : j < m) (hx : ys.getD j default = e) (hl : endF n (ys.take j) = some l) (hb : e ≤ (l : Int) ∨ (n : Int) < e) : endF n ys = none := by
  have h1 : endF n (ys.take (j + 1)) = none := by
    rw [tk_snoc' hn hj hx, endF_snoc, hl]
    show (if _ then _ else _) = _
    rw [if_pos hb]
  have h2 : ys = ys.take (j + 1) ++ ys.drop (j + 1) := (List.take_append_drop _ _).symm
  rw [h2, endF, List.foldl_append, show (ys.take (j + 1)).foldl (endStep n) (some 0) = none from h1]
  exact fold_none (fun _ => rfl) _
theorem endF_next {n m j : Nat} {ys : List Int} {e : Int} {l : Nat} (hn : ys.length = m) (hj : j < m) (hx : ys.getD j default = e) (hl : endF n (ys.take j) = some l) (hb : ¬ (e ≤ (l : Int) ∨ (n : Int) < e)) : endF n (ys.take (j + 1)) = some e.toNat := by
  rw [tk_snoc' hn hj hx, endF_snoc, hl]
  show (if _ then _ else _) = _
  rw [if_neg hb]
theorem ckF_stop {xs : List Ln} {h : Int} {m j : Nat} {ys : List Int} (h1 : ckF xs h (ys.take (j + 1)) = none) : ckF xs h ys = none := by
  have h2 : ys = ys.take (j + 1) ++ ys.drop (j + 1) := (List.take_append_drop _ _).symm
  rw [h2, ckF, List.foldl_append, show (ys.take (j + 1)).foldl (ckStep xs h) (some (0, 0)) = none from h1]
  exact fold_none (fun _ => rfl) _
theorem ckF_bad {xs : List Ln} {h : Int} {n m j : Nat} {ys : List Int} {e : Int} {l : Nat} {s : Int} (hx0 : xs.length = n) (hn : ys.length = m) (hj : j < m) (hx : ys.getD j default = e) (hl : ckF xs h (ys.take j) = some (l, s)) (hb : e ≤ (l : Int) ∨ (n : Int) < e) : ckF xs h ys = none := by
  refine ckF_stop (m := m) (j := j) ?_
  rw [tk_snoc' hn hj hx, ckF_snoc, hl]
  show (if _ then _ else _) = _
  rw [if_pos (by rw [hx0]; exact hb)]
theorem ckF_next {xs : List Ln} {h : Int} {n m j : Nat} {ys : List Int} {e : Int} {l : Nat} {s : Int} (hx0 : xs.length = n) (hn : ys.length = m) (hj : j < m) (hx : ys.getD j default = e) (hl : ckF xs h (ys.take j) = some (l, s)) (hb : ¬ (e ≤ (l : Int) ∨ (n : Int) < e)) :
    ckF xs h (ys.take (j + 1)) = (pageC xs h l e.toNat).map fun c => (e.toNat, s + c) := by
  rw [tk_snoc' hn hj hx, ckF_snoc, hl]
  show (if _ then _ else _) = _
  rw [if_neg (by rw [hx0]; exact hb)]
/-- The ends of the checked pages are ends. -/
theorem ck_end (xs : List Ln) (h : Int) (l : List Int) : ∀ p, ckF xs h l = some p → endF xs.length l = some p.1 := by
  have key : ∀ (l : List Int) (q : Nat) (s : Int) p, l.foldl (ckStep xs h) (some (q, s)) = some p → l.foldl (endStep xs.length) (some q) = some p.1 := by
    intro l
    induction l with
    | nil => intro q s p hp; injection hp with hp; subst hp; rfl
    | cons e r ih =>
      intro q s p hp
      rw [List.foldl_cons] at hp ⊢
      by_cases hb : e ≤ (q : Int) ∨ (xs.length : Int) < e
      · have : ckStep xs h (some (q, s)) e = none := if_pos hb
        rw [this, fold_none (fun _ => rfl)] at hp
        cases hp
      · have h1 : ckStep xs h (some (q, s)) e = (pageC xs h q e.toNat).map fun c => (e.toNat, s + c) := if_neg hb
        have h2 : endStep xs.length (some q) e = some e.toNat := if_neg hb
        rw [h2]
        rw [h1] at hp
        rcases hc : pageC xs h q e.toNat with _ | c
        · rw [hc] at hp
          rw [show (none : Option Int).map (fun c => (e.toNat, s + c)) = none from rfl, fold_none (fun _ => rfl)] at hp
          cases hp
        · rw [hc] at hp
          exact ih _ _ _ hp
  exact fun p hp => key l 0 0 p hp

theorem validEnds_i (B : Option Addr) (m cap n : Nat) (ys : List Int) (w : World) (hn : ys.length = m) (hm : m ≤ maxLen) (hN : n ≤ 1000) (hr : Row w w.heap.size 1 B m (inc ys)) :
    Calls Try.prog 51 #[.slice B m cap, .int .i64 (n : Int)] w fun e w' => e = .returned (.bool (decide (endF n ys = some n))) ∧ Below w.heap.size w w' := by
  unfold maxLen at hm
  have HN := Lib.hid hn; clear hn
  go_enter Try.func51, Try.ntmps51
  go_wp2_with fail
  go_loopg [5, 10] m (fun k s i wr => ∃ (j l : Nat), j ≤ m ∧ k = m - j ∧ i = .int .i64 j ∧ s = .int .i64 (l : Int) ∧ l ≤ n ∧ Hid (endF n (ys.take j) = some l) ∧ Below w.heap.size w wr)
  case atStart => exact ⟨0, 0, Nat.zero_le _, rfl, rfl, rfl, Nat.zero_le _, rfl, Below.refl _ _⟩
  case round =>
    obtain ⟨j, l, hj, hk, rfl, rfl, hln, hl, hbel⟩ := hrel
    have HK := Lib.hid hk; clear hk
    have hsz := hbel.size
    by_cases hlt : j < m
    · obtain ⟨b, off, rfl, hb, hc⟩ := hr.at1 (by omega)
      have c0 : wr.cell? ⟨b, off + j, none⟩ = _ := (hbel.cell (p := ⟨b, off + j, none⟩) hb).trans (hc j hlt)
      obtain ⟨x, hx⟩ : ∃ x, ys.getD j default = x := ⟨_, rfl⟩
      simp only [inc, hx] at c0
      have Hx := Lib.hid hx; clear hx hc
      by_cases h1 : x ≤ (l : Int)
      · have hb := endF_bad HN.out hlt Hx.out hl.out (.inl h1)
        have HB := Lib.hid hb; clear hb
        go_wp2_with fail
        go_ret
        exact ⟨ret_bool (by rw [HB.out]; rfl), by (repeat' (first | (with_reducible exact Below.refl _ _) | (with_reducible assumption) | (with_reducible refine Below.alloc ?_ ?_ _) | (with_reducible refine Below.drew ?_) | (with_reducible refine below_drewN ?_ _) | (with_reducible refine Below.setCell ?_ ?_ _) | (with_reducible refine below_then ?_ ?_ (by with_reducible assumption)) | (with_reducible exact Nat.le_refl _) | go_size | (simp only [*]; done)))⟩
      by_cases h2 : (n : Int) < x
      · have hb := endF_bad HN.out hlt Hx.out hl.out (.inr h2)
        have HB := Lib.hid hb; clear hb
        go_wp2_with fail
        go_ret
        exact ⟨ret_bool (by rw [HB.out]; rfl), by (repeat' (first | (with_reducible exact Below.refl _ _) | (with_reducible assumption) | (with_reducible refine Below.alloc ?_ ?_ _) | (with_reducible refine Below.drew ?_) | (with_reducible refine below_drewN ?_ _) | (with_reducible refine Below.setCell ?_ ?_ _) | (with_reducible refine below_then ?_ ?_ (by with_reducible assumption)) | (with_reducible exact Nat.le_refl _) | go_size | (simp only [*]; done)))⟩
      · have hb := endF_next HN.out hlt Hx.out hl.out (by omega)
        obtain ⟨xk, rfl⟩ := Int.eq_ofNat_of_zero_le (show 0 ≤ x by omega)
        rw [Int.toNat_natCast] at hb
        have HB := Lib.hid hb; clear hb
        go_wp2_with fail
        go_roundg (m - (j + 1))
        case measure => have := HK.out; omega
        case rel => exact ⟨j + 1, xk, by omega, rfl, by go_num, rfl, by omega, HB.out, by (repeat' (first | (with_reducible exact Below.refl _ _) | (with_reducible assumption) | (with_reducible refine Below.alloc ?_ ?_ _) | (with_reducible refine Below.drew ?_) | (with_reducible refine below_drewN ?_ _) | (with_reducible refine Below.setCell ?_ ?_ _) | (with_reducible refine below_then ?_ ?_ (by with_reducible assumption)) | (with_reducible exact Nat.le_refl _) | go_size | (simp only [*]; done)))⟩
    · have e : endF n ys = some l := by have := hl.out; rwa [List.take_of_length_le (by rw [HN.out]; omega)] at this
      have E := Lib.hid e; clear e
      by_cases h0 : l = n
      · subst h0
        go_wp2_with fail
        go_ret
        exact ⟨ret_bool (by rw [E.out]; simp), hbel⟩
      · have hb : ((l : Int) == (n : Int)) = false := by simp; omega
        go_wp2_with fail
        go_ret
        exact ⟨ret_bool (by rw [E.out]; simp; omega), hbel⟩

theorem check_bad {xs : List Ln} {h : Int} {ys : List Int} (hv : pagingOk xs h = false) : checkV xs h ys = (0, false) := by simp [checkV, hv]
theorem check_none {xs : List Ln} {h : Int} {ys : List Int} (hc : ckF xs h ys = none) : checkV xs h ys = (0, false) := by
  unfold checkV
  split
  · rw [hc]; rfl
  · rfl
theorem check_end {xs : List Ln} {h : Int} {ys : List Int} {n l : Nat} {s : Int} (hn : xs.length = n) (hv : pagingOk xs h = true) (hc : ckF xs h ys = some (l, s)) : checkV xs h ys = if l = n then (s, true) else (0, false) := by
  unfold checkV
  rw [if_pos hv, hc, hn]
  rfl
theorem check_ends {xs : List Ln} {h : Int} {ys : List Int} {n : Nat} (hn : xs.length = n) (he : endF n ys ≠ some n) : checkV xs h ys = (0, false) := by
  rcases hv : pagingOk xs h with _ | _
  · exact check_bad hv
  rcases hc : ckF xs h ys with _ | ⟨l, s⟩
  · exact check_none hc
  · rw [check_end hn hv hc, if_neg]
    intro e
    have := ck_end xs h ys _ hc
    rw [hn] at this
    exact he (by rw [this, e])

set_option maxHeartbeats 2000000 in
theorem checkV_i (A B : Option Addr) (n cap m cap' : Nat) (h : Int) (xs : List Ln) (ys : List Int) (w : World) (hn : xs.length = n) (hm : n ≤ maxLen) (hcap : n ≤ cap ∧ cap ≤ maxLen) (hr : Row w w.heap.size 3 A n (lnc xs)) (hn' : ys.length = m) (hm' : m ≤ maxLen) (hr' : Row w w.heap.size 1 B m (inc ys)) :
    Calls Try.prog 31 #[.slice A n cap, .int .i64 h, .slice B m cap'] w fun e w' => e = .returned (.tuple #[.int .i64 (checkV xs h ys).1, .bool (checkV xs h ys).2]) ∧ Below w.heap.size w w' := by
  rcases hv : pagingOk xs h with _ | _
  · have e := check_bad (ys := ys) hv
    have E := Lib.hid e; clear e
    go_enter Try.func31, Try.ntmps31
    go_wp2_with fail
    ((with_reducible refine (validPaging_i _ _ _ _ xs _ hn hm ?_).mono ?_); (exact hr); rintro e w1 ⟨rfl, hb⟩)
    rw [hv]
    go_wp2
    go_ret2
    exact ⟨by rw [E.out]; first | done | rfl, hb⟩
  obtain ⟨hok, h1, h2⟩ := paging_iff hv
  have hl := linesOk_len hok
  rw [hn] at hl
  by_cases he : endF n ys = some n
  · have HV := Lib.hid hv
    have HN := Lib.hid hn
    have HN' := Lib.hid hn'
    have HOK := Lib.hid hok
    have hed := decide_eq_true he
    have HED := Lib.hid hed
    have HE := Lib.hid he
    have hmm := hm'
    unfold maxLen at hmm
    clear hv hn hn' hok he hed
    go_enter Try.func31, Try.ntmps31
    go_wp2_with fail
    ((with_reducible refine (validPaging_i _ _ _ _ xs _ HN.out hm ?_).mono ?_); (exact hr); rintro e w1 ⟨rfl, hb⟩)
    rw [HV.out]
    have hrA := hr.then_ hb
    have hrB := hr'.then_ hb
    go_wp2_with fail
    ((with_reducible refine (validEnds_i _ _ _ n ys _ HN'.out hm' (by omega) ?_).mono ?_); (exact hrB); rintro e w2 ⟨rfl, hb2⟩)
    rw [HED.out]
    have hB2 := below_then (Nat.le_refl _) hb hb2
    have hrA2 := Lib.hid (hrA.then_ hb2)
    have hrB2 := hrB.then_ hb2
    clear hr hr' hrA hrB
    go_wp2_with fail
    go_loopg [8, 9, 27] m (fun k t f i wr => ∃ (j l : Nat) (s : Int), j ≤ m ∧ k = m - j ∧ i = .int .i64 j ∧ t = .int .i64 s ∧ f = .int .i64 (l : Int) ∧ l ≤ n ∧ 0 ≤ s ∧ s ≤ 100001000 * (l : Int) ∧ Hid (ckF xs h (ys.take j) = some (l, s)) ∧ Below w2.heap.size w2 wr)
    case atStart => exact ⟨0, 0, 0, Nat.zero_le _, rfl, rfl, rfl, rfl, Nat.zero_le _, by omega, by omega, rfl, Below.refl _ _⟩
    case round =>
      obtain ⟨j, l, s, hj, hk, rfl, rfl, rfl, hln, hs0, hs1, hc, hbel⟩ := hrel
      have HK := Lib.hid hk; clear hk
      have hsz := hbel.size
      by_cases hlt : j < m
      · have hrow := hrA2.out.then_ hbel
        obtain ⟨b, off, rfl, hb, hc⟩ := hrB2.at1 (by omega)
        have c0 : wr.cell? ⟨b, off + j, none⟩ = _ := (hbel.cell (p := ⟨b, off + j, none⟩) hb).trans (hc j hlt)
        obtain ⟨x, hx⟩ : ∃ x, ys.getD j default = x := ⟨_, rfl⟩
        simp only [inc, hx] at c0
        have Hx := Lib.hid hx; clear hx hc
        have hgood : ¬ (x ≤ (l : Int) ∨ (n : Int) < x) := fun hbad => by
          have h3 := ckF_bad HN.out HN'.out hlt Hx.out hc.out hbad
          have h4 : endF n (ys.take j) = some l := by have := ck_end xs h _ _ hc.out; rwa [HN.out] at this
          have h5 := endF_bad HN'.out hlt Hx.out h4 hbad
          rw [HE.out] at h5
          cases h5
        obtain ⟨xk, rfl⟩ := Int.eq_ofNat_of_zero_le (show 0 ≤ x by omega)
        have hx1 : l < xk := by omega
        have hx2 : xk ≤ n := by omega
        have hnext := ckF_next HN.out HN'.out hlt Hx.out hc.out hgood
        rw [Int.toNat_natCast] at hnext
        have HNX := Lib.hid hnext
        clear hnext hgood
        rcases hp : pageC xs h l xk with _ | v
        · have hfin : ckF xs h ys = none := ckF_stop (m := m) (j := j) (by rw [HNX.out, hp]; rfl)
          have HP := Lib.hid hp
          have E := Lib.hid (check_none hfin)
          clear hp hfin
          go_wp2_with fail
          ((with_reducible refine (pageCost_i _ _ _ l xk h xs _ HOK.out HN.out hcap hx1 hx2 h1 h2 ?_).mono ?_); (exact hrow); rintro e w3 ⟨rfl, hb3⟩)
          rw [HP.out]
          go_wp2_with fail
          go_ret2
          exact ⟨by rw [E.out]; first | done | rfl, by (repeat' (first | (with_reducible exact Below.refl _ _) | (with_reducible assumption) | (with_reducible refine Below.alloc ?_ ?_ _) | (with_reducible refine Below.drew ?_) | (with_reducible refine below_drewN ?_ _) | (with_reducible refine Below.setCell ?_ ?_ _) | (with_reducible refine below_then ?_ ?_ (by with_reducible assumption)) | (with_reducible exact Nat.le_refl _) | go_size | (simp only [*]; done)))⟩
        · have hpb := pageC_bound HOK.out HN.out h2 hx1 hx2 hp
          obtain ⟨v0, v1⟩ := hpb
          have HP := Lib.hid hp
          clear hp
          go_wp2_with fail
          ((with_reducible refine (pageCost_i _ _ _ l xk h xs _ HOK.out HN.out hcap hx1 hx2 h1 h2 ?_).mono ?_); (exact hrow); rintro e w3 ⟨rfl, hb3⟩)
          rw [HP.out]
          go_wp2_with fail
          go_roundg (m - (j + 1))
          case measure => have := HK.out; omega
          case rel => exact ⟨j + 1, xk, s + v, by omega, rfl, by go_num, rfl, rfl, hx2, by omega, by omega, (by show _ = _; rw [HNX.out, HP.out]; rfl), by (repeat' (first | (with_reducible exact Below.refl _ _) | (with_reducible assumption) | (with_reducible refine Below.alloc ?_ ?_ _) | (with_reducible refine Below.drew ?_) | (with_reducible refine below_drewN ?_ _) | (with_reducible refine Below.setCell ?_ ?_ _) | (with_reducible refine below_then ?_ ?_ (by with_reducible assumption)) | (with_reducible exact Nat.le_refl _) | go_size | (simp only [*]; done)))⟩
      · have hfin : ckF xs h ys = some (l, s) := by have := hc.out; rwa [List.take_of_length_le (by rw [HN'.out]; omega)] at this
        have hle : l = n := by
          have h4 := ck_end xs h _ _ hfin
          rw [HN.out, HE.out] at h4
          injection h4 with h4
          exact h4.symm
        have E := Lib.hid (check_end HN.out HV.out hfin)
        clear hfin
        go_wp2_with fail
        go_ret2
        exact ⟨by rw [E.out, if_pos hle]; first | done | rfl, by (repeat' (first | (with_reducible exact Below.refl _ _) | (with_reducible assumption) | (with_reducible refine Below.alloc ?_ ?_ _) | (with_reducible refine Below.drew ?_) | (with_reducible refine below_drewN ?_ _) | (with_reducible refine Below.setCell ?_ ?_ _) | (with_reducible refine below_then ?_ ?_ (by with_reducible assumption)) | (with_reducible exact Nat.le_refl _) | go_size | (simp only [*]; done)))⟩
  · have e := check_ends (h := h) hn he
    have E := Lib.hid e; clear e
    have HED := Lib.hid (decide_eq_false he)
    have HV := Lib.hid hv
    have HN := Lib.hid hn
    clear hv he hn
    go_enter Try.func31, Try.ntmps31
    go_wp2_with fail
    ((with_reducible refine (validPaging_i _ _ _ _ xs _ HN.out hm ?_).mono ?_); (exact hr); rintro e w1 ⟨rfl, hb⟩)
    rw [HV.out]
    go_wp2_with fail
    ((with_reducible refine (validEnds_i _ _ _ n ys _ hn' hm' (by omega) ?_).mono ?_); (exact hr'.then_ hb); rintro e w2 ⟨rfl, hb2⟩)
    rw [HED.out]
    go_wp2
    go_ret2
    exact ⟨by rw [E.out]; first | done | rfl, by (repeat' (first | (with_reducible exact Below.refl _ _) | (with_reducible assumption) | (with_reducible refine Below.alloc ?_ ?_ _) | (with_reducible refine Below.drew ?_) | (with_reducible refine below_drewN ?_ _) | (with_reducible refine Below.setCell ?_ ?_ _) | (with_reducible refine below_then ?_ ?_ (by with_reducible assumption)) | (with_reducible exact Nat.le_refl _) | go_size | (simp only [*]; done)))⟩

set_option maxHeartbeats 2000000 in
theorem checkV_s (A B : Option Addr) (n cap m cap' : Nat) (h : Int) (xs : List Ln) (ys : List Int) (w : World) (hn : xs.length = n) (hm : n ≤ maxLen) (hr : Row w w.heap.size 3 A n (lnc xs)) (hn' : ys.length = m) (hm' : m ≤ maxLen) (hr' : Row w w.heap.size 1 B m (inc ys)) :
    Calls Try.prog 29 #[.slice A n cap, .int .i64 h, .slice B m cap'] w fun e w' => e = .returned (.tuple #[.int .i64 (checkV xs h ys).1, .bool (checkV xs h ys).2]) ∧ Below w.heap.size w w' := by
  rcases hok : linesOk xs with _ | _
  · have e := check_bad (ys := ys) (show pagingOk xs h = false by rw [pagingOk, hok]; rfl)
    have E := Lib.hid e; clear e
    go_enter Try.func29, Try.ntmps29
    go_wp2_with fail
    ((with_reducible refine (validLines_s _ _ _ xs _ hn hm ?_).mono ?_); (exact hr); rintro e w1 ⟨rfl, hb⟩)
    rw [hok]
    go_wp2
    go_ret2
    exact ⟨by rw [E.out]; first | done | rfl, hb⟩
  rcases hwd : widthOk h with _ | _
  · have e := check_bad (ys := ys) (show pagingOk xs h = false by rw [pagingOk, hok, hwd]; rfl)
    have E := Lib.hid e; clear e
    have HOK := Lib.hid hok; clear hok
    go_enter Try.func29, Try.ntmps29
    go_wp2_with fail
    ((with_reducible refine (validLines_s _ _ _ xs _ hn hm ?_).mono ?_); (exact hr); rintro e w1 ⟨rfl, hb⟩)
    rw [HOK.out]
    go_wp2_with fail
    ((with_reducible refine (validWidth_any _ _).mono ?_); rintro e w' ⟨rfl, rfl⟩)
    rw [hwd]
    go_wp2
    go_ret2
    exact ⟨by rw [E.out]; first | done | rfl, hb⟩
  have hv : pagingOk xs h = true := by rw [pagingOk, hok, hwd]; rfl
  obtain ⟨_, h1, h2⟩ := paging_iff hv
  have hl := linesOk_len hok
  rw [hn] at hl
  have HV := Lib.hid hv
  have HN := Lib.hid hn
  have HN' := Lib.hid hn'
  have HOK := Lib.hid hok
  have HWD := Lib.hid hwd
  have hmm := hm'
  unfold maxLen at hmm
  clear hv hn hn' hok hwd
  go_enter Try.func29, Try.ntmps29
  go_wp2_with fail
  ((with_reducible refine (validLines_s _ _ _ xs _ HN.out hm ?_).mono ?_); (exact hr); rintro e w2 ⟨rfl, hB2⟩)
  rw [HOK.out]
  have hrA2 := Lib.hid (hr.then_ hB2)
  have hrB2 := hr'.then_ hB2
  clear hr hr'
  go_wp2_with fail
  ((with_reducible refine (validWidth_any _ _).mono ?_); rintro e w' ⟨rfl, rfl⟩)
  rw [HWD.out]
  go_wp2_with fail
  go_loopg [8, 9, 10] m (fun k t f i wr => ∃ (j l : Nat) (s : Int), j ≤ m ∧ k = m - j ∧ i = .int .i64 j ∧ t = .int .i64 s ∧ f = .int .i64 (l : Int) ∧ l ≤ n ∧ 0 ≤ s ∧ s ≤ 100001000 * (l : Int) ∧ Hid (ckF xs h (ys.take j) = some (l, s)) ∧ Below w2.heap.size w2 wr)
  case atStart => exact ⟨0, 0, 0, Nat.zero_le _, rfl, rfl, rfl, rfl, Nat.zero_le _, by omega, by omega, rfl, Below.refl _ _⟩
  case round =>
    obtain ⟨j, l, s, hj, hk, rfl, rfl, rfl, hln, hs0, hs1, hc, hbel⟩ := hrel
    have HK := Lib.hid hk; clear hk
    have hsz := hbel.size
    by_cases hlt : j < m
    · have hrow := hrA2.out.then_ hbel
      obtain ⟨b, off, rfl, hb, hc⟩ := hrB2.at1 (by omega)
      have c0 : wr.cell? ⟨b, off + j, none⟩ = _ := (hbel.cell (p := ⟨b, off + j, none⟩) hb).trans (hc j hlt)
      obtain ⟨x, hx⟩ : ∃ x, ys.getD j default = x := ⟨_, rfl⟩
      simp only [inc, hx] at c0
      have Hx := Lib.hid hx; clear hx hc
      by_cases hbad : x ≤ (l : Int) ∨ (n : Int) < x
      · have E := Lib.hid (check_none (ckF_bad HN.out HN'.out hlt Hx.out hc.out hbad))
        by_cases hx1 : x ≤ (l : Int)
        · clear hbad
          go_wp2_with fail
          go_ret2
          exact ⟨by rw [E.out]; first | done | rfl, by (repeat' (first | (with_reducible exact Below.refl _ _) | (with_reducible assumption) | (with_reducible refine Below.alloc ?_ ?_ _) | (with_reducible refine Below.drew ?_) | (with_reducible refine below_drewN ?_ _) | (with_reducible refine Below.setCell ?_ ?_ _) | (with_reducible refine below_then ?_ ?_ (by with_reducible assumption)) | (with_reducible exact Nat.le_refl _) | go_size | (simp only [*]; done)))⟩
        · have hx2 : (n : Int) < x := by omega
          clear hbad
          go_wp2_with fail
          go_ret2
          exact ⟨by rw [E.out]; first | done | rfl, by (repeat' (first | (with_reducible exact Below.refl _ _) | (with_reducible assumption) | (with_reducible refine Below.alloc ?_ ?_ _) | (with_reducible refine Below.drew ?_) | (with_reducible refine below_drewN ?_ _) | (with_reducible refine Below.setCell ?_ ?_ _) | (with_reducible refine below_then ?_ ?_ (by with_reducible assumption)) | (with_reducible exact Nat.le_refl _) | go_size | (simp only [*]; done)))⟩
      obtain ⟨xk, rfl⟩ := Int.eq_ofNat_of_zero_le (show 0 ≤ x by omega)
      have hx1 : l < xk := by omega
      have hx2 : xk ≤ n := by omega
      have hnext := ckF_next HN.out HN'.out hlt Hx.out hc.out hbad
      rw [Int.toNat_natCast] at hnext
      have HNX := Lib.hid hnext
      clear hnext hbad
      have hbw : b < wr.heap.size := by omega
      rcases hp : pageC xs h l xk with _ | v
      · have hfin : ckF xs h ys = none := ckF_stop (m := m) (j := j) (by rw [HNX.out, hp]; rfl)
        have HP := Lib.hid hp
        have E := Lib.hid (check_none hfin)
        clear hp hfin
        go_wp2_with fail
        ((with_reducible refine (pageCost_s _ _ _ l xk h xs _ HOK.out HN.out hx1 hx2 h1 h2 ?_).mono ?_); (exact hrow); rintro e w3 ⟨rfl, hb3⟩)
        rw [HP.out]
        go_wp2_with fail
        go_ret2
        exact ⟨by rw [E.out]; first | done | rfl, by (repeat' (first | (with_reducible exact Below.refl _ _) | (with_reducible assumption) | (with_reducible refine Below.alloc ?_ ?_ _) | (with_reducible refine Below.drew ?_) | (with_reducible refine below_drewN ?_ _) | (with_reducible refine Below.setCell ?_ ?_ _) | (with_reducible refine below_then ?_ ?_ (by with_reducible assumption)) | (with_reducible exact Nat.le_refl _) | go_size | (simp only [*]; done)))⟩
      · have hpb := pageC_bound HOK.out HN.out h2 hx1 hx2 hp
        obtain ⟨v0, v1⟩ := hpb
        have HP := Lib.hid hp
        clear hp
        go_wp2_with fail
        ((with_reducible refine (pageCost_s _ _ _ l xk h xs _ HOK.out HN.out hx1 hx2 h1 h2 ?_).mono ?_); (exact hrow); rintro e w3 ⟨rfl, hb3⟩)
        rw [HP.out]
        have d0 := (hb3.cell (p := ⟨b, off + j, none⟩) hbw).trans (show _ = _ from c0)
        go_wp2_with fail
        go_roundg (m - (j + 1))
        case measure => have := HK.out; omega
        case rel => exact ⟨j + 1, xk, s + v, by omega, rfl, by go_num, rfl, rfl, hx2, by omega, by omega, (by show _ = _; rw [HNX.out, HP.out]; rfl), by (repeat' (first | (with_reducible exact Below.refl _ _) | (with_reducible assumption) | (with_reducible refine Below.alloc ?_ ?_ _) | (with_reducible refine Below.drew ?_) | (with_reducible refine below_drewN ?_ _) | (with_reducible refine Below.setCell ?_ ?_ _) | (with_reducible refine below_then ?_ ?_ (by with_reducible assumption)) | (with_reducible exact Nat.le_refl _) | go_size | (simp only [*]; done)))⟩
    · have hfin : ckF xs h ys = some (l, s) := by have := hc.out; rwa [List.take_of_length_le (by rw [HN'.out]; omega)] at this
      have E := Lib.hid (check_end HN.out HV.out hfin)
      clear hfin
      by_cases hle : l = n
      · have E2 := Lib.hid (E.out.trans (if_pos hle))
        have hle' : (l : Int) = (n : Int) := by omega
        have hb : ((l : Int) == (n : Int)) = true := by simp [hle]
        have hb' : ((l : Int) != (n : Int)) = false := by simp [hle]
        clear hle hle' E
        go_wp2_with fail
        go_ret2
        exact ⟨by rw [E2.out]; first | done | rfl, by (repeat' (first | (with_reducible exact Below.refl _ _) | (with_reducible assumption) | (with_reducible refine Below.alloc ?_ ?_ _) | (with_reducible refine Below.drew ?_) | (with_reducible refine below_drewN ?_ _) | (with_reducible refine Below.setCell ?_ ?_ _) | (with_reducible refine below_then ?_ ?_ (by with_reducible assumption)) | (with_reducible exact Nat.le_refl _) | go_size | (simp only [*]; done)))⟩
      · have E2 := Lib.hid (E.out.trans (if_neg hle))
        have hb : ((l : Int) == (n : Int)) = false := by simp; omega
        have hb' : ((l : Int) != (n : Int)) = true := by simp; omega
        clear E
        go_wp2_with fail
        go_ret2
        exact ⟨by rw [E2.out]; first | done | rfl, by (repeat' (first | (with_reducible exact Below.refl _ _) | (with_reducible assumption) | (with_reducible refine Below.alloc ?_ ?_ _) | (with_reducible refine Below.drew ?_) | (with_reducible refine below_drewN ?_ _) | (with_reducible refine Below.setCell ?_ ?_ _) | (with_reducible refine below_then ?_ ?_ (by with_reducible assumption)) | (with_reducible exact Nat.le_refl _) | go_size | (simp only [*]; done)))⟩
end Go.Proofs.Yticdgpgbpgjnbaa
