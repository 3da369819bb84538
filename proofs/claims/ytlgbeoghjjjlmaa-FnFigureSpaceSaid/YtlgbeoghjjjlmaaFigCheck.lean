/- CheckFigures, of the program and of the reference, returns what the plain function says. Conditions: the slices read as lists; the slice of spaces is not nil. -/
import Derived.Test.YtlgbeoghjjjlmaaFigValid
import Derived.Test.YtlgbeoghjjjlmaaSpace
import Derived.Test.YtlgbeoghjjjlmaaClone
import Derived.Deep.QuietTactic
import Derived.BigQuiet
namespace Go.Proofs.Ytlgbeoghjjjlmaa
open Go.RowKit

def cfStep (S : Nat) (a : Option (List Int × Int)) (f : Fg) (p : Int) : Option (List Int × Int) :=
  a.bind fun q => if q.2 ≤ p ∧ f.b ≤ p ∧ p < (S : Int) ∧ f.a ≤ q.1.getD p.toNat default then some (q.1.set p.toNat (q.1.getD p.toNat default - f.a), p) else none
def cfF (xs : List Fg) (ps ss : List Int) : Nat → Option (List Int × Int)
  | 0 => some (ss, 0)
  | j + 1 => cfStep ss.length (cfF xs ps ss j) (xs.getD j default) (ps.getD j default)
def checkF (xs : List Fg) (ss ps : List Int) : Bool := figsOk xs && (spaceOk ss && (decide (ps.length = xs.length) && (cfF xs ps ss xs.length).isSome))
section
variable {xs : List Fg} {ps ss l : List Int} {n m j : Nat} {x : Fg} {p last : Int}
theorem cf_next (hs : ss.length = m) (hx : xs.getD j default = x) (hp : ps.getD j default = p) (h : cfF xs ps ss j = some (l, last)) :
    cfF xs ps ss (j + 1) = if last ≤ p ∧ x.b ≤ p ∧ p < (m : Int) ∧ x.a ≤ l.getD p.toNat default then some (l.set p.toNat (l.getD p.toNat default - x.a), p) else none := by
  rw [cfF, h, hx, hp, hs]; rfl
theorem cf_none (h : cfF xs ps ss j = none) : ∀ k, j ≤ k → cfF xs ps ss k = none := by
  intro k
  induction k with
  | zero => intro hk; obtain rfl : j = 0 := by omega
            exact h
  | succ k ih =>
    intro hk
    by_cases e : j = k + 1
    · subst e; exact h
    · rw [cfF, ih (by omega)]; rfl
theorem check_no (hn : xs.length = n) (hj : j ≤ n) (h : cfF xs ps ss j = none) : checkF xs ss ps = false := by
  rw [checkF, hn, cf_none h n hj]; simp
theorem fig_pre (hok : figsOk xs = true) (hn : xs.length = n) : ∀ j, j ≤ n → ∃ l, figF (xs.take j) = some l := by
  intro j
  induction j with
  | zero => intro _; exact ⟨0, rfl⟩
  | succ j ih =>
    intro hj
    obtain ⟨l, hl⟩ := ih (by omega)
    have h1 := figF_next hn (show j < n by omega) rfl hl
    by_cases hc : (inR (xs.getD j default).a 1 1000 && inR (xs.getD j default).b l 11) = true
    · rw [if_pos hc] at h1; exact ⟨_, h1⟩
    · rw [figs_bad hn (show j < n by omega) rfl hl (by simpa using hc)] at hok
      cases hok
theorem fig_at (hok : figsOk xs = true) (hn : xs.length = n) (hj : j < n) (hx : xs.getD j default = x) : (1 ≤ x.a ∧ x.a ≤ 1000) ∧ 0 ≤ x.b ∧ x.b ≤ 11 := by
  obtain ⟨l, hl⟩ := fig_pre hok hn j (by omega)
  have h0 := (figF_last hn (by omega) hl).1
  have h1 : (inR x.a 1 1000 && inR x.b l 11) = true := by
    rcases h : (inR x.a 1 1000 && inR x.b l 11) with _ | _
    · rw [figs_bad hn hj hx hl h] at hok; cases hok
    · rfl
  simp only [Bool.and_eq_true, inR_iff] at h1
  omega
theorem figs_len (hok : figsOk xs = true) : xs.length ≤ 10 := by
  simp only [figsOk, Bool.and_eq_true, decide_eq_true_eq] at hok
  exact hok.2
theorem cf_inv (hok : figsOk xs = true) (hn : xs.length = n) (hs : ss.length = m) (hso : spaceOk ss = true) : ∀ j, j ≤ n → ∀ l last, cfF xs ps ss j = some (l, last) → l.length = m ∧ (∀ y ∈ l, 0 ≤ y ∧ y ≤ 10000) ∧ 0 ≤ last ∧ last ≤ 12 ∧ ((j = 0 ∧ last = 0) ∨ (0 < j ∧ last = ps.getD (j - 1) default)) := by
  intro j
  induction j with
  | zero =>
    intro _ l last h
    cases h
    exact ⟨hs, (space_iff hso).2, by omega, by omega, .inl ⟨rfl, rfl⟩⟩
  | succ j ih =>
    intro hj l last h
    rcases hq : cfF xs ps ss j with _ | ⟨l0, last0⟩
    · rw [cfF, hq] at h; cases h
    · obtain ⟨h1, h2, h3, h4, _⟩ := ih (by omega) l0 last0 hq
      rw [cf_next hs rfl rfl hq] at h
      by_cases hc : last0 ≤ ps.getD j default ∧ (xs.getD j default).b ≤ ps.getD j default ∧ ps.getD j default < (m : Int) ∧ (xs.getD j default).a ≤ l0.getD (ps.getD j default).toNat default
      · rw [if_pos hc] at h
        obtain ⟨c1, c2, c3, c4⟩ := hc
        obtain ⟨⟨a1, a2⟩, b1, b2⟩ := fig_at hok hn (show j < n by omega) rfl
        cases h
        have hm12 := (space_iff hso).1
        have hel : l0.getD (ps.getD j default).toNat default ∈ l0 := mem_of_getD h1 (show (ps.getD j default).toNat < m by omega) rfl
        have hel' := h2 _ hel
        refine ⟨by rw [List.length_set]; exact h1, fun y hy => ?_, by omega, by omega, .inr ⟨by omega, by simp⟩⟩
        rcases List.mem_or_eq_of_mem_set hy with h5 | h5
        · exact h2 y h5
        · subst h5; omega
      · rw [if_neg hc] at h; cases h
theorem check_yes (hok : figsOk xs = true) (hso : spaceOk ss = true) (hn : xs.length = n) (hp : ps.length = n) {r : List Int × Int} (h : cfF xs ps ss n = some r) : checkF xs ss ps = true := by
  rw [checkF, hok, hso, hp, hn, h]; simp
theorem check_b1 (h : figsOk xs = false) : checkF xs ss ps = false := by rw [checkF, h]; rfl
theorem check_b2 (h : spaceOk ss = false) : checkF xs ss ps = false := by rw [checkF, h]; simp
theorem check_b3 (hn : xs.length = n) (hp : ps.length = m) (h : m ≠ n) : checkF xs ss ps = false := by rw [checkF, hn, hp]; simp [h]
end
theorem within_q (a l h : Int) (w : World) : Calls Try.prog 42 #[.int .i64 a, .int .i64 l, .int .i64 h] w fun e w' => e = .returned (.bool (inR a l h)) ∧ w' = w :=
  (within_any a l h w).mono fun _ _ ⟨h1, h2⟩ => ⟨h1, h2.symm⟩

set_option maxHeartbeats 4000000 in
theorem checkF_i (A : Option Addr) (n cap bs os m cs : Nat) (B : Option Addr) (k ck : Nat) (xs : List Fg) (ss ps : List Int) (w : World) (hn : xs.length = n) (hm : n ≤ maxLen) (hr : Row w w.heap.size 2 A n (fgc xs))
    (hs : ss.length = m) (hms : m ≤ 1048576) (hrs : Row w w.heap.size 1 (some ⟨bs, os, none⟩) m (inc ss)) (hp : ps.length = k) (hmp : k ≤ maxLen) (hrp : Row w w.heap.size 1 B k (inc ps)) :
    Calls Try.prog 37 #[.slice A n cap, .slice (some ⟨bs, os, none⟩) m cs, .slice B k ck] w fun e w' => e = .returned (.bool (checkF xs ss ps)) ∧ Below w.heap.size w w' := by
  have hmx : m ≤ maxLen := by unfold maxLen; omega
  have hmp' := hmp
  unfold maxLen at hmp'
  have HR := Lib.hid hr
  have HRS := Lib.hid hrs
  have HRP := Lib.hid hrp
  clear hr hrs hrp
  rcases h1 : figsOk xs with _ | _
  · have E := Lib.hid (check_b1 (ss := ss) (ps := ps) h1)
    go_enter Try.func37, Try.ntmps37
    go_wp2_with fail
    ((with_reducible refine (validFigures_i _ _ _ xs _ hn hm ?_).mono ?_); (exact HR.out); rintro e w1 ⟨rfl, hb1⟩)
    rw [h1]
    go_wp2
    go_ret
    exact ⟨ret_bool E.out.symm, hb1⟩
  rcases h2 : spaceOk ss with _ | _
  · have E := Lib.hid (check_b2 (xs := xs) (ps := ps) h2)
    go_enter Try.func37, Try.ntmps37
    go_wp2_with fail
    ((with_reducible refine (validFigures_i _ _ _ xs _ hn hm ?_).mono ?_); (exact HR.out); rintro e w1 ⟨rfl, hb1⟩)
    rw [h1]
    go_wp2_with fail
    ((with_reducible refine (validSpaces_i _ _ _ ss _ hs hmx ?_).mono ?_); (exact HRS.out.then_ hb1); rintro e w2 ⟨rfl, hb2⟩)
    rw [h2]
    go_wp2
    go_ret
    exact ⟨ret_bool E.out.symm, below_then (Nat.le_refl _) hb1 hb2⟩
  have hl := figs_len h1
  rw [hn] at hl
  by_cases h3 : k = n
  case neg =>
    have E := Lib.hid (check_b3 (ss := ss) hn hp h3)
    have hb : ((k : Int) != (n : Int)) = true := by simp; omega
    have H1 := Lib.hid h1
    have H2 := Lib.hid h2
    clear h1 h2
    go_enter Try.func37, Try.ntmps37
    go_wp2_with fail
    ((with_reducible refine (validFigures_i _ _ _ xs _ hn hm ?_).mono ?_); (exact HR.out); rintro e w1 ⟨rfl, hb1⟩)
    rw [H1.out]
    go_wp2_with fail
    ((with_reducible refine (validSpaces_i _ _ _ ss _ hs hmx ?_).mono ?_); (exact HRS.out.then_ hb1); rintro e w2 ⟨rfl, hb2⟩)
    rw [H2.out]
    go_wp2
    go_ret
    exact ⟨ret_bool E.out.symm, below_then (Nat.le_refl _) hb1 hb2⟩
  subst h3
  have hm12 := (space_iff h2).1
  rw [hs] at hm12
  have HOK := Lib.hid h1
  have HSO := Lib.hid h2
  have HN := Lib.hid hn
  have HS := Lib.hid hs
  have HP := Lib.hid hp
  clear h1 h2 hn hs hp
  go_enter Try.func37, Try.ntmps37
  go_wp2_with fail
  ((with_reducible refine (validFigures_i _ _ _ xs _ HN.out hm ?_).mono ?_); (exact HR.out); rintro e w1 ⟨rfl, hb1⟩)
  rw [HOK.out]
  go_wp2_with fail
  ((with_reducible refine (validSpaces_i _ _ _ ss _ HS.out hmx ?_).mono ?_); (exact HRS.out.then_ hb1); rintro e w2 ⟨rfl, hb2⟩)
  rw [HSO.out]
  have hB2 := below_then (Nat.le_refl _) hb1 hb2
  go_wp2_with fail
  ((with_reducible refine (clone_any _ _ _ _ ss _ HS.out hms ?_).mono ?_); (exact (HRS.out.below hB2).more hB2.size); rintro e w3 ⟨g, c, rfl, hown3, hb3⟩)
  have hB3 := below_then (Nat.le_refl _) hB2 hb3
  have hz3 := hB3.size
  have hz2 := hB2.size
  have hgb := (hown3.lt g rfl).1
  have HO3 := Lib.hid hown3
  clear hown3
  go_wp2_with fail
  go_loopg [8, 31] k (fun kk lv iv wr => ∃ (j : Nat) (l : List Int) (last : Int), j ≤ k ∧ kk = k - j ∧ iv = .int .i64 j ∧ lv = .int .i64 last ∧ Hid (cfF xs ps ss j = some (l, last)) ∧ Hid (OwnI wr w2.heap.size (some ⟨g, 0, none⟩) m c l) ∧ Below w2.heap.size w2 wr)
  case atStart => exact ⟨0, ss, 0, Nat.zero_le _, rfl, by go_num, rfl, rfl, HO3.out, hb3⟩
  case round =>
    obtain ⟨j, l, last, hj, hk, rfl, rfl, hcf, hown, hbel⟩ := hrel
    have HK := Lib.hid hk; clear hk
    have hsz := hbel.size
    have hB := below_then (Nat.le_refl _) hB2 hbel
    obtain ⟨hll, hlb, l0, l1, _⟩ := cf_inv (ps := ps) HOK.out HN.out HS.out HSO.out j hj l last hcf.out
    have HLL := Lib.hid hll
    have HLB := Lib.hid hlb
    clear hll hlb
    by_cases hlt : j < k
    · obtain ⟨b1, o1, hA1, hbb1, hc1⟩ := HR.out (by omega)
      have c0 : wr.cell? ⟨b1, o1 + j * 2, none⟩ = _ := (hB.cell (p := ⟨b1, o1 + j * 2, none⟩) hbb1).trans (hc1 j 0 hlt (by omega))
      have c1 : wr.cell? ⟨b1, o1 + j * 2 + 1, none⟩ = _ := (hB.cell (p := ⟨b1, o1 + j * 2 + 1, none⟩) hbb1).trans (hc1 j 1 hlt (by omega))
      subst hA1
      obtain ⟨b2, o2, hA2, hbb2, hc2⟩ := HRP.out.at1 (by omega)
      have d0 : wr.cell? ⟨b2, o2 + j, none⟩ = _ := (hB.cell (p := ⟨b2, o2 + j, none⟩) hbb2).trans (hc2 j hlt)
      subst hA2
      obtain ⟨x, hx⟩ : ∃ x, xs.getD j default = x := ⟨_, rfl⟩
      obtain ⟨p, hpp⟩ : ∃ p, ps.getD j default = p := ⟨_, rfl⟩
      simp only [fgc, hx] at c0 c1
      simp only [inc, hpp] at d0
      obtain ⟨⟨a1, a2⟩, q1, q2⟩ := fig_at HOK.out HN.out hlt hx
      have hnx := cf_next HS.out hx hpp hcf.out
      have hbw2 : b2 < wr.heap.size := by have := hB.size; omega
      have dX : (wr.alloc (.cells #[.int .i64 x.a, .int .i64 x.b] 68)).cell? ⟨b2, o2 + j, none⟩ = _ := (World.cell?_alloc_lt wr _ ⟨b2, o2 + j, none⟩ hbw2).trans d0
      have hltk : (j : Int) < (k : Int) := by omega
      clear hc1 hc2 hx hpp
      by_cases hmx : last < x.b
      · skip
        rcases hin : inR p x.b ((m : Int) - 1) with _ | _
        · have E := Lib.hid (check_no (ss := ss) (ps := ps) HN.out (show j + 1 ≤ k by omega) (by rw [hnx, if_neg (by have := inR_no.1 hin; omega)]))
          have w1' : IntKind.i64.wrap ((m : Int) - 1) = (m : Int) - 1 := IntWalk.i64_in _ (by omega)
          clear hnx
          go_wp2_with fail
          go_quiet ((go_at_call 42; exact Calls.quiet_of_same (within_q _ _ _ _)))
          go_wp2_with fail
          go_ret
          exact ⟨ret_bool E.out.symm, by (repeat' (first | (with_reducible exact Below.refl _ _) | (with_reducible assumption) | (with_reducible refine Below.alloc ?_ ?_ _) | (with_reducible refine Below.drew ?_) | (with_reducible refine below_drewN ?_ _) | (with_reducible refine Below.setCell ?_ ?_ _) | (with_reducible refine below_then ?_ ?_ (by with_reducible assumption)) | (with_reducible exact Nat.le_refl _) | go_size | (simp only [*]; done)))⟩
        · obtain ⟨i1, i2⟩ := inR_iff.1 hin
          obtain ⟨u, rfl⟩ := Int.eq_ofNat_of_zero_le (show 0 ≤ p by omega)
          have hum : u < m := by omega
          have hum' : (u : Int) < (m : Int) := by omega
          obtain ⟨y, hy⟩ : ∃ y, l.getD u default = y := ⟨_, rfl⟩
          rw [Int.toNat_natCast, hy] at hnx
          obtain ⟨y0, y1⟩ := HLB.out y (mem_of_getD HLL.out hum hy)
          have o0 := hown.out.cellI hum
          rw [hy] at o0
          have hgl := (hown.out.lt g rfl).2
          have oX : (wr.alloc (.cells #[.int .i64 x.a, .int .i64 x.b] 68)).cell? ⟨g, u, none⟩ = _ := (World.cell?_alloc_lt wr _ ⟨g, u, none⟩ hgl).trans o0
          have fX := (OwnI.alloc hown.out (.cells #[.int .i64 x.a, .int .i64 x.b] 68)).frozenAt u
          have w1' : IntKind.i64.wrap ((m : Int) - 1) = (m : Int) - 1 := IntWalk.i64_in _ (by omega)
          have w2' : IntKind.i64.wrap (y - x.a) = y - x.a := IntWalk.i64_in _ (by omega)
          have hgne : ¬ g = wr.heap.size := by omega
          clear hy
          by_cases hya : y < x.a
          · have E := Lib.hid (check_no (ss := ss) (ps := ps) HN.out (show j + 1 ≤ k by omega) (by rw [hnx, if_neg (by omega)]))
            have hd : decide (y < x.a) = true := decide_eq_true hya
            clear hnx
            go_wp2_with fail
            go_quiet ((go_at_call 42; exact Calls.quiet_of_same (within_q _ _ _ _)))
            go_wp2_with fail
            go_ret
            exact ⟨ret_bool E.out.symm, by (repeat' (first | (with_reducible exact Below.refl _ _) | (with_reducible assumption) | (with_reducible refine Below.alloc ?_ ?_ _) | (with_reducible refine Below.drew ?_) | (with_reducible refine below_drewN ?_ _) | (with_reducible refine Below.setCell ?_ ?_ _) | (with_reducible refine below_then ?_ ?_ (by with_reducible assumption)) | (with_reducible exact Nat.le_refl _) | go_size | (simp only [*]; done)))⟩
          · rw [if_pos (by omega)] at hnx
            have hd : decide (y < x.a) = false := decide_eq_false hya
            have HNX := Lib.hid hnx
            clear hnx hya
            go_wp2_with fail
            go_quiet ((go_at_call 42; exact Calls.quiet_of_same (within_q _ _ _ _)))
            go_wp2_with fail
            go_region
            all_goals
              go_wp2_with fail
              go_roundg (k - (j + 1))
              case measure => have := HK.out; omega
              case rel =>
                refine ⟨j + 1, l.set u (y - x.a), (u : Int), by omega, rfl, by go_num, by go_num, HNX.out, ?_, by (repeat' (first | (with_reducible exact Below.refl _ _) | (with_reducible assumption) | (with_reducible refine Below.alloc ?_ ?_ _) | (with_reducible refine Below.drew ?_) | (with_reducible refine below_drewN ?_ _) | (with_reducible refine Below.setCell ?_ ?_ _) | (with_reducible refine below_then ?_ ?_ (by with_reducible assumption)) | (with_reducible exact Nat.le_refl _) | go_size | (simp only [*]; done)))⟩
                exact OwnI.stored (j := u) (xs := l) (by first | exact (OwnI.drewN (OwnI.alloc hown.out _) _) | exact OwnI.drew (OwnI.drewN (OwnI.alloc hown.out _) _)) (y - x.a)
      · have hmx2 : x.b ≤ last := by omega
        rcases hin : inR p last ((m : Int) - 1) with _ | _
        · have E := Lib.hid (check_no (ss := ss) (ps := ps) HN.out (show j + 1 ≤ k by omega) (by rw [hnx, if_neg (by have := inR_no.1 hin; omega)]))
          have w1' : IntKind.i64.wrap ((m : Int) - 1) = (m : Int) - 1 := IntWalk.i64_in _ (by omega)
          clear hnx
          go_wp2_with fail
          go_quiet ((go_at_call 42; exact Calls.quiet_of_same (within_q _ _ _ _)))
          go_wp2_with fail
          go_ret
          exact ⟨ret_bool E.out.symm, by (repeat' (first | (with_reducible exact Below.refl _ _) | (with_reducible assumption) | (with_reducible refine Below.alloc ?_ ?_ _) | (with_reducible refine Below.drew ?_) | (with_reducible refine below_drewN ?_ _) | (with_reducible refine Below.setCell ?_ ?_ _) | (with_reducible refine below_then ?_ ?_ (by with_reducible assumption)) | (with_reducible exact Nat.le_refl _) | go_size | (simp only [*]; done)))⟩
        · obtain ⟨i1, i2⟩ := inR_iff.1 hin
          obtain ⟨u, rfl⟩ := Int.eq_ofNat_of_zero_le (show 0 ≤ p by omega)
          have hum : u < m := by omega
          have hum' : (u : Int) < (m : Int) := by omega
          obtain ⟨y, hy⟩ : ∃ y, l.getD u default = y := ⟨_, rfl⟩
          rw [Int.toNat_natCast, hy] at hnx
          obtain ⟨y0, y1⟩ := HLB.out y (mem_of_getD HLL.out hum hy)
          have o0 := hown.out.cellI hum
          rw [hy] at o0
          have hgl := (hown.out.lt g rfl).2
          have oX : (wr.alloc (.cells #[.int .i64 x.a, .int .i64 x.b] 68)).cell? ⟨g, u, none⟩ = _ := (World.cell?_alloc_lt wr _ ⟨g, u, none⟩ hgl).trans o0
          have fX := (OwnI.alloc hown.out (.cells #[.int .i64 x.a, .int .i64 x.b] 68)).frozenAt u
          have w1' : IntKind.i64.wrap ((m : Int) - 1) = (m : Int) - 1 := IntWalk.i64_in _ (by omega)
          have w2' : IntKind.i64.wrap (y - x.a) = y - x.a := IntWalk.i64_in _ (by omega)
          have hgne : ¬ g = wr.heap.size := by omega
          clear hy
          by_cases hya : y < x.a
          · have E := Lib.hid (check_no (ss := ss) (ps := ps) HN.out (show j + 1 ≤ k by omega) (by rw [hnx, if_neg (by omega)]))
            have hd : decide (y < x.a) = true := decide_eq_true hya
            clear hnx
            go_wp2_with fail
            go_quiet ((go_at_call 42; exact Calls.quiet_of_same (within_q _ _ _ _)))
            go_wp2_with fail
            go_ret
            exact ⟨ret_bool E.out.symm, by (repeat' (first | (with_reducible exact Below.refl _ _) | (with_reducible assumption) | (with_reducible refine Below.alloc ?_ ?_ _) | (with_reducible refine Below.drew ?_) | (with_reducible refine below_drewN ?_ _) | (with_reducible refine Below.setCell ?_ ?_ _) | (with_reducible refine below_then ?_ ?_ (by with_reducible assumption)) | (with_reducible exact Nat.le_refl _) | go_size | (simp only [*]; done)))⟩
          · rw [if_pos (by omega)] at hnx
            have hd : decide (y < x.a) = false := decide_eq_false hya
            have HNX := Lib.hid hnx
            clear hnx hya
            go_wp2_with fail
            go_quiet ((go_at_call 42; exact Calls.quiet_of_same (within_q _ _ _ _)))
            go_wp2_with fail
            go_region
            all_goals
              go_wp2_with fail
              go_roundg (k - (j + 1))
              case measure => have := HK.out; omega
              case rel =>
                refine ⟨j + 1, l.set u (y - x.a), (u : Int), by omega, rfl, by go_num, by go_num, HNX.out, ?_, by (repeat' (first | (with_reducible exact Below.refl _ _) | (with_reducible assumption) | (with_reducible refine Below.alloc ?_ ?_ _) | (with_reducible refine Below.drew ?_) | (with_reducible refine below_drewN ?_ _) | (with_reducible refine Below.setCell ?_ ?_ _) | (with_reducible refine below_then ?_ ?_ (by with_reducible assumption)) | (with_reducible exact Nat.le_refl _) | go_size | (simp only [*]; done)))⟩
                exact OwnI.stored (j := u) (xs := l) (by first | exact (OwnI.drewN (OwnI.alloc hown.out _) _) | exact OwnI.drew (OwnI.drewN (OwnI.alloc hown.out _) _)) (y - x.a)
    · have E := Lib.hid (check_yes HOK.out HSO.out HN.out HP.out (by have := hcf.out; rwa [show j = k by omega] at this))
      go_wp2_with fail
      go_ret
      exact ⟨ret_bool E.out.symm, hB⟩
end Go.Proofs.Ytlgbeoghjjjlmaa
