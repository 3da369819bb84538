/- The law on the penalties of pages answers true: FnWidowPenalties. Conditions: the code is a slice of bytes. -/
import Derived.Test.YtlgbeoghjjjlmaaTextOut
import Derived.Test.YtlgbeoghjjjlmaaCountDraw
import Derived.Test.YtlgbeoghjjjlmaaIsIn
namespace Go.Proofs.Ytlgbeoghjjjlmaa
open Go.RowKit

theorem penE_step {ys : List Int} {L : List Ln} {q j : Nat} {x : Ln} {s : Int} (hq : L.length = q) (hj : j < q) (hx : L.getD j default = x) (hs : penP (has ys) 0 (L.take j) = s) : penP (has ys) 0 (L.take (j + 1)) = s + if has ys ((j : Int) + 1) = true then x.c else 0 := by
  rw [tk_snoc' hq hj hx, penP_snoc, hs, List.length_take, Nat.min_eq_left (by omega), Nat.zero_add]
theorem penE_rng {ys : List Int} {L : List Ln} {q j : Nat} {s : Int} (hL : ∀ x ∈ L, 0 ≤ x.c ∧ x.c ≤ 250) (hq : L.length = q) (hj : j ≤ q) (hs : penP (has ys) 0 (L.take j) = s) : 0 ≤ s ∧ s ≤ 250 * (j : Int) := by
  have := penP_bound (has ys) (L.take j) 0 fun x hx => hL x (List.mem_of_mem_take hx)
  rw [hs, List.length_take, Nat.min_eq_left (by omega)] at this
  exact this
theorem countW_rng (xs ys : List Int) (n : Nat) (hn : xs.length = n) : (countW xs ys).1 ≤ n ∧ (countW xs ys).2 ≤ n ∧ -1 ≤ (countW xs ys).2 := by
  have h1 := (countW_le xs ys).2
  have h2 : longOf xs ≤ xs.length := by
    have := sum_bound (l := xs.map fun x => bit (decide (1 < x))) (a := 0) (b := 1) fun x hx => by
      obtain ⟨y, _, rfl⟩ := List.mem_map.1 hx
      exact bit_bound _
    rw [List.length_map] at this
    unfold longOf
    omega
  have h3 : ∀ k, k ≤ xs.length → 0 ≤ (cwF ys (xs.take k)).2.2 := by
    intro k
    induction k with
    | zero => intro _; simp [cwF]
    | succ k ih =>
      intro hk
      rw [tk_snoc xs k (by omega), cwF_snoc]
      simp only [cwStep]
      have h4 := ih (by omega)
      have h5 := (bit_bound (decide (1 < xs.getD k default) && has ys ((cwF ys (xs.take k)).1 + xs.getD k default - 1))).1
      omega
  have h4 := h3 xs.length (Nat.le_refl _)
  rw [List.take_length] at h4
  refine ⟨by omega, by omega, ?_⟩
  unfold countW
  split
  · omega
  · simp

set_option maxHeartbeats 4000000 in
theorem law_WidowPenalties (A : Option Addr) (n cap : Nat) (cs : List Int) (w : World) (hc : Code w A n cap cs) :
    Calls Try.prog 9 #[.slice A n cap] w fun e w' => e = .returned (.bool true) ∧ Below w.heap.size w w' := by
  have hn := hc.1
  unfold maxLen at hn
  by_cases hbig : 1048576 < n
  · go_enter Try.func9, Try.ntmps9
    go_wp2
    go_returns
    exact ⟨rfl, Below.refl _ _⟩
  go_enter Try.func9, Try.ntmps9
  go_wp2_with fail
  ((with_reducible refine (DrawCountWidows_any _ _ _ cs _ hc).mono ?_); rintro e w1 ⟨B, B2, m, c, m2, c2, xs, ys, rfl, hx, hm, hy, hm2, hr1, hq1, hb1⟩)
  have HX := Lib.hid hx
  have HY := Lib.hid hy; clear hy
  have hmx : m ≤ maxLen := by unfold maxLen; omega
  have hmy : m2 ≤ maxLen := by unfold maxLen; omega
  have hz1 := hb1.size
  obtain ⟨a, ha⟩ : ∃ a, (countW xs ys).1 = a := ⟨_, rfl⟩
  obtain ⟨b, hb⟩ : ∃ b, (countW xs ys).2 = b := ⟨_, rfl⟩
  have hrg := countW_rng xs ys m hx
  rw [ha, hb] at hrg
  obtain ⟨hra, hrb, hrc⟩ := hrg
  obtain ⟨L, hL⟩ : ∃ L, textV xs 1 = L := ⟨_, rfl⟩
  have hq40 := textV_len xs 1
  have hLc : ∀ x ∈ L, 0 ≤ x.c ∧ x.c ≤ 250 := fun x hx => textV_line (l := xs) (h := 1) (hL ▸ hx)
  rw [hL] at hq40
  obtain ⟨q, hq⟩ : ∃ q, L.length = q := ⟨_, rfl⟩
  rw [hq] at hq40
  have HL := Lib.hid hL
  have HQ := Lib.hid hq
  have HLC := Lib.hid hLc
  have hqx : q ≤ maxLen := by unfold maxLen; omega
  have HA := Lib.hid ha
  have HB := Lib.hid hb
  clear ha hb hL hq hLc hx
  go_wp2_with fail
  ((with_reducible refine (countW_i _ _ _ _ _ _ xs ys _ HX.out hmx ?_ HY.out hmy ?_).mono ?_); (exact hr1); (exact hq1); rintro e w2 ⟨rfl, hb2⟩)
  rw [HA.out, HB.out]
  have hr2 := hr1.then_ hb2
  have hq2 := hq1.then_ hb2
  have hz2' := hb2.size
  go_wp2_with fail
  ((with_reducible refine (countW_s _ _ _ _ _ _ xs ys _ HX.out hmx ?_ HY.out hmy ?_).mono ?_); (exact hr2); (exact hq2); rintro e w3 ⟨rfl, hb3⟩)
  rw [HA.out, HB.out]
  have hr3 := hr2.then_ hb3
  have hq3 := hq2.then_ hb3
  have hz3 := hb3.size
  have hB3 : Below w.heap.size w w3 := by (repeat' (first | (with_reducible exact Below.refl _ _) | (with_reducible assumption) | (with_reducible refine Below.alloc ?_ ?_ _) | (with_reducible refine Below.drew ?_) | (with_reducible refine below_drewN ?_ _) | (with_reducible refine Below.setCell ?_ ?_ _) | (with_reducible refine below_then ?_ ?_ (by with_reducible assumption)) | (with_reducible exact Nat.le_refl _) | go_size | (simp only [*]; done)))
  go_wp2_with fail
  ((with_reducible refine ((textLines_i _ _ _ 1 xs _ HX.out hmx ?_).mono fun _ _ h => out_of HL.out HQ.out h).mono ?_); (exact hr3); rintro e w4 ⟨A2, d2, rfl, g2, hb4⟩)
  have hq4 := hq3.then_ hb4
  have hz4 := hb4.size
  have ga := g2.row
  have hB4 : Below w.heap.size w w4 := by (repeat' (first | (with_reducible exact Below.refl _ _) | (with_reducible assumption) | (with_reducible refine Below.alloc ?_ ?_ _) | (with_reducible refine Below.drew ?_) | (with_reducible refine below_drewN ?_ _) | (with_reducible refine Below.setCell ?_ ?_ _) | (with_reducible refine below_then ?_ ?_ (by with_reducible assumption)) | (with_reducible exact Nat.le_refl _) | go_size | (simp only [*]; done)))
  have HQ4 := Lib.hid hq4
  have GA := Lib.hid ga
  clear hr1 hr2 hr3 hq1 hq2 hq3 hq4 ga g2
  by_cases hneg : a < 0
  · go_wp2_with fail
    go_returns
    exact ⟨rfl, hB4⟩
  by_cases h0 : q = 0
  · subst h0
    go_wp2_with fail
    go_returns
    exact ⟨rfl, hB4⟩
  have hv : textOk xs 1 = true := by
    rcases hv : textOk xs 1 with _ | _
    · have := HL.out
      rw [text_no hv] at this
      have h2 := HQ.out
      rw [← this] at h2
      simp at h2
      omega
    · rfl
  have hfin := pen_ends ys hv
  rw [HL.out, HA.out, HB.out] at hfin
  have HFIN := Lib.hid hfin
  have h0' : ((q : Int) == 0) = false := by simp; omega
  have ha0 : (0 : Int) ≤ a := by omega
  clear hfin hv hneg
  go_wp2_with fail
  go_loopg [10, 11] (q + 1) (fun k t i wr => ∃ (j : Nat) (s : Int), j ≤ q ∧ k = q + 1 - j ∧ i = .int .i64 ((j : Int) + 1) ∧ t = .int .i64 s ∧ Hid (penP (has ys) 0 (L.take j) = s) ∧ Below w4.heap.size w4 wr)
  case atStart => exact ⟨0, 0, Nat.zero_le _, rfl, by go_num, rfl, rfl, Below.refl _ _⟩
  case round =>
    obtain ⟨j, s, hj, hk, rfl, rfl, hs, hbel⟩ := hrel
    have HK := Lib.hid hk; clear hk
    have hsz := hbel.size
    obtain ⟨s0, s1⟩ := penE_rng HLC.out HQ.out hj hs.out
    by_cases hlt : j < q
    · obtain ⟨b', off, rfl, hb, hcc⟩ := GA.out (by omega)
      have c00 := hcc j 2 hlt (by omega)
      obtain ⟨x, hx⟩ : ∃ x, L.getD j default = x := ⟨_, rfl⟩
      simp only [lnc, hx] at c00
      have hst := penE_step HQ.out hlt hx hs.out
      have hxc := HLC.out x (mem_of_getD HQ.out hlt hx)
      obtain ⟨x0, x1⟩ := hxc
      have c2 : wr.cell? ⟨b', off + j * 3 + 2, none⟩ = _ := (hbel.cell (p := ⟨b', off + j * 3 + 2, none⟩) hb).trans c00
      have hqr := HQ4.out.then_ hbel
      have HQR := Lib.hid hqr
      have hlt' : (j : Int) < (q : Int) := by omega
      have hj1 : (j : Int) + 1 ≤ (q : Int) := by omega
      have hbw : b' < wr.heap.size := by omega
      clear hcc hx c00 hqr
      rcases hh : has ys ((j : Int) + 1) with _ | _
      · rw [hh] at hst
        have HST := Lib.hid hst
        have HH := Lib.hid hh
        clear hst hh
        go_wp2_with fail
        ((with_reducible refine (isIn_any _ _ _ _ ys _ HY.out hmy ?_).mono ?_); (exact HQR.out); rintro e w5 ⟨rfl, hb5⟩)
        rw [HH.out]
        go_wp2_with fail
        go_roundg (q + 1 - (j + 1))
        case measure => have := HK.out; omega
        case rel => exact ⟨j + 1, s, by omega, rfl, by go_num, rfl, by have := HST.out; simpa [Hid] using this, by (repeat' (first | (with_reducible exact Below.refl _ _) | (with_reducible assumption) | (with_reducible refine Below.alloc ?_ ?_ _) | (with_reducible refine Below.drew ?_) | (with_reducible refine below_drewN ?_ _) | (with_reducible refine Below.setCell ?_ ?_ _) | (with_reducible refine below_then ?_ ?_ (by with_reducible assumption)) | (with_reducible exact Nat.le_refl _) | go_size | (simp only [*]; done)))⟩
      · rw [hh, if_pos rfl] at hst
        have HST := Lib.hid hst
        have HH := Lib.hid hh
        clear hst hh
        have e1 : IntKind.i64.wrap (s + x.c) = s + x.c := IntWalk.i64_in _ (by omega)
        have e2 : IntKind.i64.wrap ((j : Int) + 1 - 1) = (j : Int) := by rw [show (j : Int) + 1 - 1 = j by omega]; exact IntWalk.i64_in _ (by omega)
        go_wp2_with fail
        ((with_reducible refine (isIn_any _ _ _ _ ys _ HY.out hmy ?_).mono ?_); (exact HQR.out); rintro e w5 ⟨rfl, hb5⟩)
        rw [HH.out]
        have c5 : w5.cell? ⟨b', off + j * 3 + 2, none⟩ = _ := (hb5.cell (p := ⟨b', off + j * 3 + 2, none⟩) hbw).trans c2
        go_wp2_with fail
        go_roundg (q + 1 - (j + 1))
        case measure => have := HK.out; omega
        case rel => exact ⟨j + 1, s + x.c, by omega, rfl, by go_num, by go_num, HST.out, by (repeat' (first | (with_reducible exact Below.refl _ _) | (with_reducible assumption) | (with_reducible refine Below.alloc ?_ ?_ _) | (with_reducible refine Below.drew ?_) | (with_reducible refine below_drewN ?_ _) | (with_reducible refine Below.setCell ?_ ?_ _) | (with_reducible refine below_then ?_ ?_ (by with_reducible assumption)) | (with_reducible exact Nat.le_refl _) | go_size | (simp only [*]; done)))⟩
    · have hss : s = a * 100 + b * 150 := by have h1 := hs.out; have h2 := HFIN.out; rw [List.take_of_length_le (by rw [HQ.out]; omega)] at h1; omega
      have hj1 : (q : Int) < (j : Int) + 1 := by omega
      subst hss
      go_wp2_with fail
      go_returns
      exact ⟨rfl, by (repeat' (first | (with_reducible exact Below.refl _ _) | (with_reducible assumption) | (with_reducible refine Below.alloc ?_ ?_ _) | (with_reducible refine Below.drew ?_) | (with_reducible refine below_drewN ?_ _) | (with_reducible refine Below.setCell ?_ ?_ _) | (with_reducible refine below_then ?_ ?_ (by with_reducible assumption)) | (with_reducible exact Nat.le_refl _) | go_size | (simp only [*]; done)))⟩
end Go.Proofs.Ytlgbeoghjjjlmaa
