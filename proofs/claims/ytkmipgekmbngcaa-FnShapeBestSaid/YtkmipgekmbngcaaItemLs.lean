/- Lines of a paragraph, of the reference: valid lines are what the plain functions say. Conditions: the slice reads as the list. -/
import Derived.Test.YtkmipgekmbngcaaItemSp
import Derived.Test.YtkmipgekmbngcaaItemL
namespace Go.Proofs.Ytkmipgekmbngcaa
open Go.RowKit

theorem start_eq {xs : List It} {n a t j : Nat} (hn : xs.length = n) (ht : t < n) (ha : a ≤ t) (hF : noF xs a t = true) (haj : a ≤ j) (hj : j ≤ n) (h1 : ∀ i, a ≤ i → i < j → kd xs i ≠ 1) (h2 : j < n → kd xs j = 1 ∨ forced (xs.getD j default) = true) : sg xs j t = sg xs (lst xs a t) t := by
  rcases Nat.lt_or_ge j t with hlt | hge
  · have h3 : kd xs j = 1 := by
      rcases h2 (by omega) with h | h
      · exact h
      · have := (noF_iff hn (by omega)).1 hF j haj hlt
        rw [this] at h; cases h
    rw [lst_eq hn (by omega) (j - a) a j (by omega) (by omega) h1 (fun _ => h3)]
  · rw [lst_eq hn (by omega) (t - a) a t (by omega) (Nat.le_refl _) (fun i h3 h4 => h1 i h3 (by omega)) (by omega), sg_none _ hge, sg_none _ (Nat.le_refl _)]

set_option maxHeartbeats 1000000 in
theorem lineStart_s (A : Option Addr) (n cap a t : Nat) (f : Int) (xs : List It) (w : World) (hn : xs.length = n) (hm : n ≤ 60) (hf : f + 1 = (a : Int)) (ha : a ≤ t) (ht : t < n) (hF : noF xs a t = true) (hr : Row w w.heap.size 6 A n (itc xs)) :
    Calls Try.prog 93 #[.slice A n cap, .int .i64 f] w fun e w' => (∃ s : Nat, e = .returned (.int .i64 (s : Int)) ∧ a ≤ s ∧ s ≤ n ∧ sg xs s t = sg xs (lst xs a t) t) ∧ Below w.heap.size w w' := by
  have HN := Lib.hid hn; clear hn
  have HF := Lib.hid hF; clear hF
  go_enter Try.func93, Try.ntmps93
  go_wp2_with fail
  go_loopg [5] (n - a) (fun k i wr => ∃ j : Nat, a ≤ j ∧ j ≤ n ∧ k = n - j ∧ i = .int .i64 (j : Int) ∧ Hid (∀ i, a ≤ i → i < j → kd xs i ≠ 1) ∧ Below w.heap.size w wr)
  case atStart => exact ⟨a, Nat.le_refl _, by omega, rfl, rfl, fun i h1 h2 => by omega, Below.refl _ _⟩
  case round =>
    obtain ⟨j, hj0, hj, hk, rfl, hall, hbel⟩ := hrel
    have HK := Lib.hid hk; clear hk
    have hsz := hbel.size
    clear hf
    by_cases hlt : j < n
    · obtain ⟨b, off, rfl, hb, hc⟩ := hr (by omega)
      have c0 : wr.cell? ⟨b, off + j * 6, none⟩ = _ := (hbel.cell (p := ⟨b, off + j * 6, none⟩) hb).trans (hc j 0 (by omega) (by omega))
      have c4 : wr.cell? ⟨b, off + j * 6 + 4, none⟩ = _ := (hbel.cell (p := ⟨b, off + j * 6 + 4, none⟩) hb).trans (hc j 4 (by omega) (by omega))
      obtain ⟨x, hx⟩ : ∃ x, xs.getD j default = x := ⟨_, rfl⟩
      simp only [itc, itv, hx] at c0 c4
      have Hx := Lib.hid hx; clear hx hc
      have hltn : (j : Int) < (n : Int) := by omega
      obtain ⟨xk, xw, xst, xsh, xp, xf⟩ := x
      simp only at c0 c4
      have hnext : xk ≠ 1 → ∀ i, a ≤ i → i < j + 1 → kd xs i ≠ 1 := fun h1 i h2 h3 => by
        rcases Nat.lt_or_ge i j with h4 | h4
        · exact hall.out i h2 h4
        · obtain rfl : i = j := by omega
          rw [kd, Hx.out]
          exact h1
      have hstop : xk = 1 ∨ (xk = 3 ∧ xp = -1000) → sg xs j t = sg xs (lst xs a t) t := fun h => start_eq HN.out ht ha HF.out hj0 hj hall.out (fun _ => by
        rw [kd, Hx.out]
        rcases h with h | ⟨h, h'⟩
        · exact .inl h
        · right
          simp [forced, h, h'])
      have HNX := Lib.hid hnext
      have HST := Lib.hid hstop
      clear hnext hstop Hx
      by_cases h1 : xk = 1
      · subst h1
        go_wp2_with fail
        go_ret
        exact ⟨⟨j, rfl, hj0, hj, HST.out (by simp)⟩, hbel⟩
      · by_cases h3 : xk = 3
        · subst h3
          clear h1
          by_cases h4 : xp = -1000
          · subst h4
            go_wp2_with fail
            go_ret
            exact ⟨⟨j, rfl, hj0, hj, HST.out (by simp)⟩, hbel⟩
          · have h4' : (xp == -1000) = false := by simp [h4]
            go_wp2_with fail
            go_roundg (n - (j + 1))
            case measure => have := HK.out; omega
            case rel => exact ⟨j + 1, by omega, by omega, rfl, by go_num, HNX.out (by decide), by (repeat' (first | (with_reducible exact Below.refl _ _) | (with_reducible assumption) | (with_reducible refine Below.alloc ?_ ?_ _) | (with_reducible refine Below.drew ?_) | (with_reducible refine below_drewN ?_ _) | (with_reducible refine Below.setCell ?_ ?_ _) | (with_reducible refine below_then ?_ ?_ (by with_reducible assumption)) | (with_reducible exact Nat.le_refl _) | go_size | (simp only [*]; done)))⟩
        · have h1' : (xk == 1) = false := by simp [h1]
          have h3' : (xk == 3) = false := by simp [h3]
          go_wp2_with fail
          go_roundg (n - (j + 1))
          case measure => have := HK.out; omega
          case rel => exact ⟨j + 1, by omega, by omega, rfl, by go_num, HNX.out h1, by (repeat' (first | (with_reducible exact Below.refl _ _) | (with_reducible assumption) | (with_reducible refine Below.alloc ?_ ?_ _) | (with_reducible refine Below.drew ?_) | (with_reducible refine below_drewN ?_ _) | (with_reducible refine Below.setCell ?_ ?_ _) | (with_reducible refine below_then ?_ ?_ (by with_reducible assumption)) | (with_reducible exact Nat.le_refl _) | go_size | (simp only [*]; done)))⟩
    · go_wp2_with fail
      go_ret
      exact ⟨⟨j, rfl, hj0, hj, start_eq HN.out ht ha HF.out hj0 hj hall.out (fun h => absurd h hlt)⟩, hbel⟩

theorem noF_stop {xs : List It} {n a t j : Nat} {x : It} (hn : xs.length = n) (ht : t ≤ n) (ha : a ≤ j) (hj : j < t) (hx : xs.getD j default = x) (h : forced x = true) : noF xs a t = false := by
  rcases hv : noF xs a t with _ | _
  · rfl
  · have := (noF_iff hn ht).1 hv j ha hj
    rw [hx, h] at this
    cases this
/-- The part of validLine that looks for a forced break; what is ahead of it is known. -/
def vlPost (w : World) (xs : List It) (f t : Int) (e : Ending) (w' : World) : Prop := e = .returned (.bool (lineV xs f t)) ∧ Below w.heap.size w w'
theorem lv_bad {xs : List It} {f t : Int} (h : itemsOk xs = false) : lineV xs f t = false := by simp [lineV, h]
theorem lv_ok {xs : List It} {f t : Int} (h : itemsOk xs = true) : lineV xs f t = lnOk xs f t := by simp [lineV, h]

set_option maxHeartbeats 2000000 in
theorem validLine_s (A : Option Addr) (n cap : Nat) (f t : Int) (xs : List It) (w : World) (hn : xs.length = n) (hm : n ≤ maxLen) (hr : Row w w.heap.size 6 A n (itc xs)) :
    Calls Try.prog 62 #[.slice A n cap, .int .i64 f, .int .i64 t] w fun e w' => e = .returned (.bool (lineV xs f t)) ∧ Below w.heap.size w w' := by
  rcases hok : itemsOk xs with _ | _
  · rw [lv_bad hok]
    go_enter Try.func62, Try.ntmps62
    go_wp2_with fail
    ((with_reducible refine (validItems_s _ _ _ xs _ hn hm ?_).mono ?_); (exact hr); rintro e w1 ⟨rfl, hb1⟩)
    rw [hok]
    go_wp2_with fail
    go_ret
    exact ⟨rfl, hb1⟩
  rw [lv_ok hok]
  have h60 := (itemsOk_len hok hn).2
  have HOK := Lib.hid hok
  clear hok
  have h0 : ∀ E, lnOk xs f t = E → (f < -1 ∨ t ≤ f ∨ (n : Int) ≤ t) → E = false := fun E hE h => by
    rw [← hE]
    rcases h with h | h | h
    · exact ln_low h
    · exact ln_le h
    · exact ln_high hn h
  obtain ⟨E, hE⟩ : ∃ E, lnOk xs f t = E := ⟨_, rfl⟩
  by_cases h1 : f < -1
  · rw [hE, h0 E hE (.inl h1)]
    clear h0 hE
    go_enter Try.func62, Try.ntmps62
    go_wp2_with fail
    ((with_reducible refine (validItems_s _ _ _ xs _ hn hm ?_).mono ?_); (exact hr); rintro e w1 ⟨rfl, hb1⟩)
    rw [HOK.out]
    go_wp2_with fail
    go_ret
    exact ⟨rfl, hb1⟩
  by_cases h2 : t ≤ f
  · rw [hE, h0 E hE (.inr (.inl h2))]
    clear h0 hE
    go_enter Try.func62, Try.ntmps62
    go_wp2_with fail
    ((with_reducible refine (validItems_s _ _ _ xs _ hn hm ?_).mono ?_); (exact hr); rintro e w1 ⟨rfl, hb1⟩)
    rw [HOK.out]
    go_wp2_with fail
    go_ret
    exact ⟨rfl, hb1⟩
  by_cases h3 : (n : Int) ≤ t
  · rw [hE, h0 E hE (.inr (.inr h3))]
    clear h0 hE
    go_enter Try.func62, Try.ntmps62
    go_wp2_with fail
    ((with_reducible refine (validItems_s _ _ _ xs _ hn hm ?_).mono ?_); (exact hr); rintro e w1 ⟨rfl, hb1⟩)
    rw [HOK.out]
    go_wp2_with fail
    go_ret
    exact ⟨rfl, hb1⟩
  clear h0
  obtain ⟨u, rfl⟩ := Int.eq_ofNat_of_zero_le (show 0 ≤ t by omega)
  have hu : u < n := by omega
  have HE := Lib.hid hE
  rw [hE]
  clear hE h3
  rcases hB : brk xs u with _ | _
  · have e1 : E = false := by rw [← HE.out]; exact ln_t hB
    rw [e1]
    have HB := Lib.hid hB
    clear hB e1
    go_enter Try.func62, Try.ntmps62
    go_wp2_with fail
    ((with_reducible refine (validItems_s _ _ _ xs _ hn hm ?_).mono ?_); (exact hr); rintro e w1 ⟨rfl, hb1⟩)
    rw [HOK.out]
    go_wp2_with fail
    ((with_reducible refine (isBreak_s _ _ _ u xs _ hn hu hm ?_).mono ?_); (exact hr.then_ hb1); rintro e w2 ⟨rfl, hb2⟩)
    rw [HB.out]
    go_wp2_with fail
    go_ret
    exact ⟨rfl, below_then (Nat.le_refl _) hb1 hb2⟩
  have HB := Lib.hid hB
  -- the loop, from a on
  by_cases h4 : f = -1
  · subst h4
    have hE1 : E = noF xs 0 u := by rw [← HE.out]; exact ln_first hn hu hB
    have HE1 := Lib.hid hE1
    clear hB HE hE1 h1
    have hr0 := Lib.hid hr
    have hlu : (-1 : Int) < (u : Int) := by omega
    go_enter Try.func62, Try.ntmps62
    go_wp2_with fail
    ((with_reducible refine (validItems_s _ _ _ xs _ hn hm ?_).mono ?_); (exact hr); rintro e w1 ⟨rfl, hb1⟩)
    rw [HOK.out]
    go_wp2_with fail
    ((with_reducible refine (isBreak_s _ _ _ u xs _ hn hu hm ?_).mono ?_); (exact hr.then_ hb1); rintro e w2 ⟨rfl, hb2⟩)
    rw [HB.out]
    have hB2 : Below w.heap.size w w2 := below_then (Nat.le_refl _) hb1 hb2
    clear h2
    go_wp2_with fail
    go_loopg [7] u (fun k i wr => ∃ j : Nat, j ≤ u ∧ k = u - j ∧ i = .int .i64 (j : Int) ∧ Hid (∀ i, 0 ≤ i → i < j → forced (xs.getD i default) = false) ∧ Below w.heap.size w wr)
    case atStart => exact ⟨0, Nat.zero_le _, rfl, rfl, fun i h1 h2 => by omega, hB2⟩
    case round =>
      obtain ⟨j, hj, hk, rfl, hall, hbel⟩ := hrel
      have HK := Lib.hid hk; clear hk
      have hsz := hbel.size
      by_cases hlt : j < u
      · obtain ⟨b, off, rfl, hb, hc⟩ := hr (by omega)
        have c0 : wr.cell? ⟨b, off + j * 6, none⟩ = _ := (hbel.cell (p := ⟨b, off + j * 6, none⟩) hb).trans (hc j 0 (by omega) (by omega))
        have c4 : wr.cell? ⟨b, off + j * 6 + 4, none⟩ = _ := (hbel.cell (p := ⟨b, off + j * 6 + 4, none⟩) hb).trans (hc j 4 (by omega) (by omega))
        obtain ⟨x, hx⟩ : ∃ x, xs.getD j default = x := ⟨_, rfl⟩
        simp only [itc, itv, hx] at c0 c4
        have Hx := Lib.hid hx; clear hx hc
        have hltn : (j : Int) < (n : Int) := by omega
        have hltu : (j : Int) < (u : Int) := by omega
        have hnext : forced x = false → ∀ i, 0 ≤ i → i < j + 1 → forced (xs.getD i default) = false := fun h1 i h2 h3 => by
          rcases Nat.lt_or_ge i j with h4 | h4
          · exact hall.out i h2 h4
          · obtain rfl : i = j := by omega
            rw [Hx.out]
            exact h1
        have HNX := Lib.hid hnext
        clear hnext
        rcases h3 : (x.k == 3) with _ | _
        · go_wp2_with fail
          go_roundg (u - (j + 1))
          case measure => have := HK.out; omega
          case rel => exact ⟨j + 1, by omega, rfl, by go_num, HNX.out (by simp only [forced, h3, Bool.false_and]), by (repeat' (first | (with_reducible exact Below.refl _ _) | (with_reducible assumption) | (with_reducible refine Below.alloc ?_ ?_ _) | (with_reducible refine Below.drew ?_) | (with_reducible refine below_drewN ?_ _) | (with_reducible refine Below.setCell ?_ ?_ _) | (with_reducible refine below_then ?_ ?_ (by with_reducible assumption)) | (with_reducible exact Nat.le_refl _) | go_size | (simp only [*]; done)))⟩
        · rcases h4 : (x.pen == -1000) with _ | _
          · go_wp2_with fail
            go_roundg (u - (j + 1))
            case measure => have := HK.out; omega
            case rel => exact ⟨j + 1, by omega, rfl, by go_num, HNX.out (by simp only [forced, h3, h4, Bool.and_false]), by (repeat' (first | (with_reducible exact Below.refl _ _) | (with_reducible assumption) | (with_reducible refine Below.alloc ?_ ?_ _) | (with_reducible refine Below.drew ?_) | (with_reducible refine below_drewN ?_ _) | (with_reducible refine Below.setCell ?_ ?_ _) | (with_reducible refine below_then ?_ ?_ (by with_reducible assumption)) | (with_reducible exact Nat.le_refl _) | go_size | (simp only [*]; done)))⟩
          · go_wp2_with fail
            go_ret
            exact ⟨ret_bool (by rw [HE1.out]; exact (noF_stop hn (by omega) (Nat.zero_le _) hlt Hx.out (by simp only [forced, h3, h4, Bool.and_self])).symm), hbel⟩
      · go_wp2_with fail
        go_ret
        exact ⟨ret_bool (by rw [HE1.out]; exact ((noF_iff hn (by omega)).2 (fun i h1 h2 => hall.out i h1 (by omega))).symm), hbel⟩
  obtain ⟨v, rfl⟩ := Int.eq_ofNat_of_zero_le (show 0 ≤ f by omega)
  have hvu : v < u := by omega
  rcases hV : brk xs v with _ | _
  · have e1 : E = false := by rw [← HE.out]; exact ln_f hV
    rw [e1]
    have HV := Lib.hid hV
    clear hB hV e1 h1 h4
    go_enter Try.func62, Try.ntmps62
    go_wp2_with fail
    ((with_reducible refine (validItems_s _ _ _ xs _ hn hm ?_).mono ?_); (exact hr); rintro e w1 ⟨rfl, hb1⟩)
    rw [HOK.out]
    go_wp2_with fail
    ((with_reducible refine (isBreak_s _ _ _ u xs _ hn hu hm ?_).mono ?_); (exact hr.then_ hb1); rintro e w2 ⟨rfl, hb2⟩)
    rw [HB.out]
    have hB2 : Below w.heap.size w w2 := below_then (Nat.le_refl _) hb1 hb2
    go_wp2_with fail
    ((with_reducible refine (isBreak_s _ _ _ v xs _ hn (by omega) hm ?_).mono ?_); (exact (hr.then_ hb1).then_ hb2); rintro e w3 ⟨rfl, hb3⟩)
    rw [HV.out]
    go_wp2_with fail
    go_ret
    exact ⟨rfl, below_then (Nat.le_refl _) hB2 hb3⟩
  · have hE1 : E = noF xs (v + 1) u := by rw [← HE.out]; exact ln_mid hn hu hvu hB hV
    have HE1 := Lib.hid hE1
    have HV := Lib.hid hV
    clear hB hV HE hE1 h1 h4
    go_enter Try.func62, Try.ntmps62
    go_wp2_with fail
    ((with_reducible refine (validItems_s _ _ _ xs _ hn hm ?_).mono ?_); (exact hr); rintro e w1 ⟨rfl, hb1⟩)
    rw [HOK.out]
    go_wp2_with fail
    ((with_reducible refine (isBreak_s _ _ _ u xs _ hn hu hm ?_).mono ?_); (exact hr.then_ hb1); rintro e w2 ⟨rfl, hb2⟩)
    rw [HB.out]
    have hB2 : Below w.heap.size w w2 := below_then (Nat.le_refl _) hb1 hb2
    go_wp2_with fail
    ((with_reducible refine (isBreak_s _ _ _ v xs _ hn (by omega) hm ?_).mono ?_); (exact (hr.then_ hb1).then_ hb2); rintro e w3 ⟨rfl, hb3⟩)
    rw [HV.out]
    have hB3 : Below w.heap.size w w3 := below_then (Nat.le_refl _) hB2 hb3
    clear h2
    go_wp2_with fail
    go_loopg [7] (u - (v + 1)) (fun k i wr => ∃ j : Nat, v + 1 ≤ j ∧ j ≤ u ∧ k = u - j ∧ i = .int .i64 (j : Int) ∧ Hid (∀ i, v + 1 ≤ i → i < j → forced (xs.getD i default) = false) ∧ Below w.heap.size w wr)
    case atStart => exact ⟨v + 1, Nat.le_refl _, by omega, rfl, by go_num, fun i h1 h2 => by omega, hB3⟩
    case round =>
      obtain ⟨j, hj0, hj, hk, rfl, hall, hbel⟩ := hrel
      have HK := Lib.hid hk; clear hk
      have hsz := hbel.size
      by_cases hlt : j < u
      · obtain ⟨b, off, rfl, hb, hc⟩ := hr (by omega)
        have c0 : wr.cell? ⟨b, off + j * 6, none⟩ = _ := (hbel.cell (p := ⟨b, off + j * 6, none⟩) hb).trans (hc j 0 (by omega) (by omega))
        have c4 : wr.cell? ⟨b, off + j * 6 + 4, none⟩ = _ := (hbel.cell (p := ⟨b, off + j * 6 + 4, none⟩) hb).trans (hc j 4 (by omega) (by omega))
        obtain ⟨x, hx⟩ : ∃ x, xs.getD j default = x := ⟨_, rfl⟩
        simp only [itc, itv, hx] at c0 c4
        have Hx := Lib.hid hx; clear hx hc
        have hltn : (j : Int) < (n : Int) := by omega
        have hltu : (j : Int) < (u : Int) := by omega
        have hnext : forced x = false → ∀ i, v + 1 ≤ i → i < j + 1 → forced (xs.getD i default) = false := fun h1 i h2 h3 => by
          rcases Nat.lt_or_ge i j with h4 | h4
          · exact hall.out i h2 h4
          · obtain rfl : i = j := by omega
            rw [Hx.out]
            exact h1
        have HNX := Lib.hid hnext
        clear hnext
        rcases h3 : (x.k == 3) with _ | _
        · go_wp2_with fail
          go_roundg (u - (j + 1))
          case measure => have := HK.out; omega
          case rel => exact ⟨j + 1, by omega, by omega, rfl, by go_num, HNX.out (by simp only [forced, h3, Bool.false_and]), by (repeat' (first | (with_reducible exact Below.refl _ _) | (with_reducible assumption) | (with_reducible refine Below.alloc ?_ ?_ _) | (with_reducible refine Below.drew ?_) | (with_reducible refine below_drewN ?_ _) | (with_reducible refine Below.setCell ?_ ?_ _) | (with_reducible refine below_then ?_ ?_ (by with_reducible assumption)) | (with_reducible exact Nat.le_refl _) | go_size | (simp only [*]; done)))⟩
        · rcases h4 : (x.pen == -1000) with _ | _
          · go_wp2_with fail
            go_roundg (u - (j + 1))
            case measure => have := HK.out; omega
            case rel => exact ⟨j + 1, by omega, by omega, rfl, by go_num, HNX.out (by simp only [forced, h3, h4, Bool.and_false]), by (repeat' (first | (with_reducible exact Below.refl _ _) | (with_reducible assumption) | (with_reducible refine Below.alloc ?_ ?_ _) | (with_reducible refine Below.drew ?_) | (with_reducible refine below_drewN ?_ _) | (with_reducible refine Below.setCell ?_ ?_ _) | (with_reducible refine below_then ?_ ?_ (by with_reducible assumption)) | (with_reducible exact Nat.le_refl _) | go_size | (simp only [*]; done)))⟩
          · go_wp2_with fail
            go_ret
            exact ⟨ret_bool (by rw [HE1.out]; exact (noF_stop hn (by omega) hj0 hlt Hx.out (by simp only [forced, h3, h4, Bool.and_self])).symm), hbel⟩
      · go_wp2_with fail
        go_ret
        exact ⟨ret_bool (by rw [HE1.out]; exact ((noF_iff hn (by omega)).2 (fun i h1 h2 => hall.out i h1 (by omega))).symm), hbel⟩
end Go.Proofs.Ytkmipgekmbngcaa
