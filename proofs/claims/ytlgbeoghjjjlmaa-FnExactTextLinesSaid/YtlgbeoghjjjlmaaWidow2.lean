/- CountWidows, of the program and of the reference, returns what the plain function says. Conditions: the slices read as lists. -/
import Derived.Test.YtlgbeoghjjjlmaaWidow
namespace Go.Proofs.Ytlgbeoghjjjlmaa
open Go.RowKit

def bit (b : Bool) : Int := if b then 1 else 0
def cwStep (ends : List Int) (a : Int × Int × Int) (n : Int) : Int × Int × Int := (a.1 + n, a.2.1 + bit (decide (1 < n) && has ends (a.1 + 1)), a.2.2 + bit (decide (1 < n) && has ends (a.1 + n - 1)))
def cwF (ends l : List Int) : Int × Int × Int := l.foldl (cwStep ends) (0, 0, 0)
def countW (sizes ends : List Int) : Int × Int := if sizesOk sizes then (cwF ends sizes).2 else (-1, -1)
theorem cwF_snoc (ends l : List Int) (x : Int) : cwF ends (l ++ [x]) = cwStep ends (cwF ends l) x := by simp [cwF]
theorem cw_next {ends xs : List Int} {n j : Nat} {x s c d c' d' : Int} (hn : xs.length = n) (hj : j < n) (hx : xs.getD j default = x) (h : cwF ends (xs.take j) = (s, c, d))
    (hc : c' = c + bit (decide (1 < x) && has ends (s + 1))) (hd : d' = d + bit (decide (1 < x) && has ends (s + x - 1))) : cwF ends (xs.take (j + 1)) = (s + x, c', d') := by
  rw [tk_snoc' hn hj hx, cwF_snoc, h, hc, hd]; rfl
theorem cw_sum (ends l : List Int) : (cwF ends l).1 = l.sum := by
  have : ∀ (l : List Int) (a : Int × Int × Int), (l.foldl (cwStep ends) a).1 = a.1 + l.sum := by
    intro l
    induction l with
    | nil => simp
    | cons x r ih => intro a; rw [List.foldl_cons, ih]; simp [cwStep]; omega
  have := this l (0, 0, 0)
  simpa [cwF] using this
theorem size_at {xs : List Int} {n j : Nat} {x s : Int} (h : sizesOk xs = true) (hn : xs.length = n) (hj : j < n) (hx : xs.getD j default = x) {ends : List Int} {c : Int × Int} (hs : cwF ends (xs.take j) = (s, c)) : 1 ≤ x ∧ x ≤ 40 ∧ 0 ≤ s ∧ s + x ≤ 40 := by
  obtain ⟨h1, h2, h3, h4⟩ := sizes_ok h
  have a1 : 1 ≤ x := by have := all_at h1 hn hj hx; simpa [sizeOk] using this
  have e : (xs.take j).sum = s := by rw [← cw_sum ends, hs]
  have a2 := sum_take_le h1 (j + 1)
  rw [tk_snoc' hn hj hx, sum_snoc, e] at a2
  have a3 : (xs.take j).all sizeOk = true := List.all_eq_true.2 fun y hy => List.all_eq_true.1 h1 y (List.mem_of_mem_take hy)
  have := sum_pos a3
  rw [e] at this
  omega

set_option maxHeartbeats 1000000 in
theorem countW_i (A B : Option Addr) (n cap m cap' : Nat) (xs ys : List Int) (w : World) (hn : xs.length = n) (hm : n ≤ maxLen) (hr : Row w w.heap.size 1 A n (inc xs)) (hn' : ys.length = m) (hm' : m ≤ maxLen) (hr' : Row w w.heap.size 1 B m (inc ys)) :
    Calls Try.prog 19 #[.slice A n cap, .slice B m cap'] w fun e w' => e = .returned (.tuple #[.int .i64 (countW xs ys).1, .int .i64 (countW xs ys).2]) ∧ Below w.heap.size w w' := by
  rcases hv : sizesOk xs with _ | _
  · have e : countW xs ys = (-1, -1) := by simp [countW, hv]
    rw [e]; clear e
    have HN := Lib.hid hn; clear hn
    go_enter Try.func19, Try.ntmps19
    go_wp2_with fail
    ((with_reducible refine (validSizes_i _ _ _ xs _ HN.out hm ?_).mono ?_); (exact hr); rintro e w1 ⟨rfl, hb⟩)
    rw [hv]
    go_wp2
    go_ret2
    exact ⟨rfl, hb⟩
  · have e : countW xs ys = (cwF ys xs).2 := by simp [countW, hv]
    rw [e]; clear e
    have hl := (sizes_ok hv).2.2
    rw [hn] at hl
    obtain ⟨hl0, hl1⟩ := hl
    have HN := Lib.hid hn; clear hn
    have HN' := Lib.hid hn'; clear hn'
    have HV := Lib.hid hv; clear hv
    go_enter Try.func19, Try.ntmps19
    go_wp2_with fail
    ((with_reducible refine (validSizes_i _ _ _ xs _ HN.out hm ?_).mono ?_); (exact hr); rintro e w1 ⟨rfl, hb⟩)
    rw [HV.out]
    go_wp2_with fail
    go_loopg [6, 7, 8, 16] n (fun k c' d' s' i wr => ∃ (j : Nat) (s c d : Int), j ≤ n ∧ k = n - j ∧ c' = .int .i64 c ∧ d' = .int .i64 d ∧ s' = .int .i64 s ∧ i = .int .i64 j ∧ 0 ≤ c ∧ c ≤ j ∧ 0 ≤ d ∧ d ≤ j ∧ Hid (cwF ys (xs.take j) = (s, c, d)) ∧ Below w.heap.size w wr)
    case atStart => exact ⟨0, 0, 0, 0, Nat.zero_le _, rfl, rfl, rfl, rfl, rfl, by omega, by omega, by omega, by omega, rfl, hb⟩
    case round =>
      obtain ⟨j, s, c, d, hj, hk, rfl, rfl, rfl, rfl, hc0, hc1, hd0, hd1, hcw, hbel⟩ := hrel
      have HK := Lib.hid hk; clear hk
      have hsz := hbel.size
      by_cases hlt : j < n
      · have hr'' := (hr'.below hbel).more hsz
        obtain ⟨b, off, rfl, hb, hc⟩ := hr.at1 (by omega)
        have c0 : wr.cell? ⟨b, off + j, none⟩ = _ := (hbel.cell (p := ⟨b, off + j, none⟩) hb).trans (hc j hlt)
        obtain ⟨x, hx⟩ : ∃ x, xs.getD j default = x := ⟨_, rfl⟩
        simp only [inc, hx] at c0
        have Hx := Lib.hid hx; clear hx hc
        obtain ⟨x1, x2, s1, s2⟩ := size_at HV.out HN.out hlt Hx.out hcw.out
        by_cases hx1 : 1 < x
        · have hd1' : decide (1 < x) = true := decide_eq_true hx1
          obtain ⟨b1, he1⟩ : ∃ b, has ys (s + 1) = b := ⟨_, rfl⟩
          obtain ⟨b2, he2⟩ : ∃ b, has ys (s + x - 1) = b := ⟨_, rfl⟩
          have HC : ∀ c' d', c' = c + bit b1 → d' = d + bit b2 → cwF ys (xs.take (j + 1)) = (s + x, c', d') := fun c' d' h1 h2 => cw_next HN.out hlt Hx.out hcw.out (by rw [hd1', he1]; exact h1) (by rw [hd1', he2]; exact h2)
          have HC' := Lib.hid HC
          have HE1 := Lib.hid he1
          have HE2 := Lib.hid he2
          clear HC hd1' he1 he2
          go_wp2_with fail
          ((with_reducible refine (contains_any _ _ _ _ ys _ HN'.out hm' ?_).mono ?_); (exact hr''); rintro e w2 ⟨rfl, hb2⟩)
          rw [HE1.out]
          have hr2 := hr''.then_ hb2
          have hz2 := hb2.size
          cases b1
          all_goals
            go_wp2_with fail
            ((with_reducible refine (contains_any _ _ _ _ ys _ HN'.out hm' ?_).mono ?_); (exact hr2); rintro e w3 ⟨rfl, hb3⟩)
            rw [HE2.out]
            have hz3 := hb3.size
            cases b2
            all_goals
              go_wp2_with fail
              go_roundg (n - (j + 1))
              case measure => have := HK.out; omega
              case rel => exact ⟨j + 1, s + x, _, _, by omega, rfl, rfl, rfl, rfl, by go_num, by omega, by omega, by omega, by omega, HC'.out _ _ (by simp [bit]) (by simp [bit]), by (repeat' (first | (with_reducible exact Below.refl _ _) | (with_reducible assumption) | (with_reducible refine Below.alloc ?_ ?_ _) | (with_reducible refine Below.drew ?_) | (with_reducible refine below_drewN ?_ _) | (with_reducible refine Below.setCell ?_ ?_ _) | (with_reducible refine below_then ?_ ?_ (by with_reducible assumption)) | (with_reducible exact Nat.le_refl _) | go_size | (simp only [*]; done)))⟩
        · have hd1' : decide (1 < x) = false := decide_eq_false hx1
          have HC : cwF ys (xs.take (j + 1)) = (s + x, c, d) := cw_next HN.out hlt Hx.out hcw.out (by rw [hd1']; simp [bit]) (by rw [hd1']; simp [bit])
          have HC' := Lib.hid HC
          clear HC hd1'
          go_wp2_with fail
          go_roundg (n - (j + 1))
          case measure => have := HK.out; omega
          case rel => exact ⟨j + 1, s + x, c, d, by omega, rfl, rfl, rfl, rfl, by go_num, by omega, by omega, by omega, by omega, HC'.out, by (repeat' (first | (with_reducible exact Below.refl _ _) | (with_reducible assumption) | (with_reducible refine Below.alloc ?_ ?_ _) | (with_reducible refine Below.drew ?_) | (with_reducible refine below_drewN ?_ _) | (with_reducible refine Below.setCell ?_ ?_ _) | (with_reducible refine below_then ?_ ?_ (by with_reducible assumption)) | (with_reducible exact Nat.le_refl _) | go_size | (simp only [*]; done)))⟩
      · have he : cwF ys xs = (s, c, d) := by have := hcw.out; rwa [List.take_of_length_le (by rw [HN.out]; omega)] at this
        have HE := Lib.hid he
        clear he
        go_wp2_with fail
        go_ret2
        exact ⟨by rw [HE.out]; rfl, hbel⟩

set_option maxHeartbeats 1000000 in
theorem countW_s (A B : Option Addr) (n cap m cap' : Nat) (xs ys : List Int) (w : World) (hn : xs.length = n) (hm : n ≤ maxLen) (hr : Row w w.heap.size 1 A n (inc xs)) (hn' : ys.length = m) (hm' : m ≤ maxLen) (hr' : Row w w.heap.size 1 B m (inc ys)) :
    Calls Try.prog 18 #[.slice A n cap, .slice B m cap'] w fun e w' => e = .returned (.tuple #[.int .i64 (countW xs ys).1, .int .i64 (countW xs ys).2]) ∧ Below w.heap.size w w' := by
  rcases hv : sizesOk xs with _ | _
  · have e : countW xs ys = (-1, -1) := by simp [countW, hv]
    rw [e]; clear e
    have HN := Lib.hid hn; clear hn
    go_enter Try.func18, Try.ntmps18
    go_wp2_with fail
    ((with_reducible refine (validParts_s _ _ _ xs _ HN.out hm ?_).mono ?_); (exact hr); rintro e w1 ⟨rfl, hb⟩)
    rw [hv]
    go_wp2
    go_ret2
    exact ⟨rfl, hb⟩
  · have e : countW xs ys = (cwF ys xs).2 := by simp [countW, hv]
    rw [e]; clear e
    have hl := (sizes_ok hv).2.2
    rw [hn] at hl
    obtain ⟨hl0, hl1⟩ := hl
    have HN := Lib.hid hn; clear hn
    have HN' := Lib.hid hn'; clear hn'
    have HV := Lib.hid hv; clear hv
    go_enter Try.func18, Try.ntmps18
    go_wp2_with fail
    ((with_reducible refine (validParts_s _ _ _ xs _ HN.out hm ?_).mono ?_); (exact hr); rintro e w1 ⟨rfl, hb⟩)
    rw [HV.out]
    go_wp2_with fail
    go_loopg [6, 7, 8, 9] n (fun k c' d' s' i wr => ∃ (j : Nat) (s c d : Int), j ≤ n ∧ k = n - j ∧ c' = .int .i64 c ∧ d' = .int .i64 d ∧ s' = .int .i64 s ∧ i = .int .i64 j ∧ 0 ≤ c ∧ c ≤ j ∧ 0 ≤ d ∧ d ≤ j ∧ Hid (cwF ys (xs.take j) = (s, c, d)) ∧ Below w.heap.size w wr)
    case atStart => exact ⟨0, 0, 0, 0, Nat.zero_le _, rfl, rfl, rfl, rfl, rfl, by omega, by omega, by omega, by omega, rfl, hb⟩
    case round =>
      obtain ⟨j, s, c, d, hj, hk, rfl, rfl, rfl, rfl, hc0, hc1, hd0, hd1, hcw, hbel⟩ := hrel
      have HK := Lib.hid hk; clear hk
      have hsz := hbel.size
      by_cases hlt : j < n
      · have hr'' := (hr'.below hbel).more hsz
        obtain ⟨b, off, rfl, hb, hc⟩ := hr.at1 (by omega)
        have c0 : wr.cell? ⟨b, off + j, none⟩ = _ := (hbel.cell (p := ⟨b, off + j, none⟩) hb).trans (hc j hlt)
        obtain ⟨x, hx⟩ : ∃ x, xs.getD j default = x := ⟨_, rfl⟩
        simp only [inc, hx] at c0
        have Hx := Lib.hid hx; clear hx hc
        have hbw : b < wr.heap.size := by omega
        obtain ⟨x1, x2, s1, s2⟩ := size_at HV.out HN.out hlt Hx.out hcw.out
        by_cases hx1 : 1 < x
        · have hd1' : decide (1 < x) = true := decide_eq_true hx1
          obtain ⟨b1, he1⟩ : ∃ b, has ys (s + 1) = b := ⟨_, rfl⟩
          obtain ⟨b2, he2⟩ : ∃ b, has ys (s + x - 1) = b := ⟨_, rfl⟩
          have HC : ∀ c' d', c' = c + bit b1 → d' = d + bit b2 → cwF ys (xs.take (j + 1)) = (s + x, c', d') := fun c' d' h1 h2 => cw_next HN.out hlt Hx.out hcw.out (by rw [hd1', he1]; exact h1) (by rw [hd1', he2]; exact h2)
          have HC' := Lib.hid HC
          have HE1 := Lib.hid he1
          have HE2 := Lib.hid he2
          clear HC hd1' he1 he2
          go_wp2_with fail
          ((with_reducible refine (endsAt_s _ _ _ _ ys _ HN'.out hm' ?_).mono ?_); (exact hr''); rintro e w2 ⟨rfl, hb2⟩)
          rw [HE1.out]
          have hr2 := hr''.then_ hb2
          have hz2 := hb2.size
          have c2 := (hb2.cell (p := ⟨b, off + j, none⟩) (by first | exact hbw | simpa using hbw)).trans (show _ = _ from c0)
          cases b1
          all_goals
            go_wp2_with fail
            ((with_reducible refine (endsAt_s _ _ _ _ ys _ HN'.out hm' ?_).mono ?_); (exact hr2); rintro e w3 ⟨rfl, hb3⟩)
            rw [HE2.out]
            have hz3 := hb3.size
            have c3 := (hb3.cell (p := ⟨b, off + j, none⟩) (by show b < _; omega)).trans (show _ = _ from c2)
            cases b2
            all_goals
              go_wp2_with fail
              go_roundg (n - (j + 1))
              case measure => have := HK.out; omega
              case rel => exact ⟨j + 1, s + x, _, _, by omega, rfl, rfl, rfl, rfl, by go_num, by omega, by omega, by omega, by omega, HC'.out _ _ (by simp [bit]) (by simp [bit]), by (repeat' (first | (with_reducible exact Below.refl _ _) | (with_reducible assumption) | (with_reducible refine Below.alloc ?_ ?_ _) | (with_reducible refine Below.drew ?_) | (with_reducible refine below_drewN ?_ _) | (with_reducible refine Below.setCell ?_ ?_ _) | (with_reducible refine below_then ?_ ?_ (by with_reducible assumption)) | (with_reducible exact Nat.le_refl _) | go_size | (simp only [*]; done)))⟩
        · have hd1' : decide (1 < x) = false := decide_eq_false hx1
          have HC : cwF ys (xs.take (j + 1)) = (s + x, c, d) := cw_next HN.out hlt Hx.out hcw.out (by rw [hd1']; simp [bit]) (by rw [hd1']; simp [bit])
          have HC' := Lib.hid HC
          clear HC hd1'
          go_wp2_with fail
          go_roundg (n - (j + 1))
          case measure => have := HK.out; omega
          case rel => exact ⟨j + 1, s + x, c, d, by omega, rfl, rfl, rfl, rfl, by go_num, by omega, by omega, by omega, by omega, HC'.out, by (repeat' (first | (with_reducible exact Below.refl _ _) | (with_reducible assumption) | (with_reducible refine Below.alloc ?_ ?_ _) | (with_reducible refine Below.drew ?_) | (with_reducible refine below_drewN ?_ _) | (with_reducible refine Below.setCell ?_ ?_ _) | (with_reducible refine below_then ?_ ?_ (by with_reducible assumption)) | (with_reducible exact Nat.le_refl _) | go_size | (simp only [*]; done)))⟩
      · have he : cwF ys xs = (s, c, d) := by have := hcw.out; rwa [List.take_of_length_le (by rw [HN.out]; omega)] at this
        have HE := Lib.hid he
        clear he
        go_wp2_with fail
        go_ret2
        exact ⟨by rw [HE.out]; rfl, hbel⟩
end Go.Proofs.Ytlgbeoghjjjlmaa
