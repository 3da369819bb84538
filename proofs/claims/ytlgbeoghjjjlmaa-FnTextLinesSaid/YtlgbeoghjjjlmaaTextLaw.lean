/- The law on the lines of paragraphs answers true: FnTextLines. Conditions: the code is a slice of bytes. -/
import Derived.Test.YtlgbeoghjjjlmaaTextOut
import Derived.Test.YtlgbeoghjjjlmaaTextDraw
import Derived.Test.YtlgbeoghjjjlmaaEqualInts
namespace Go.Proofs.Ytlgbeoghjjjlmaa
open Go.RowKit

def allP : Int → Bool := fun _ => true
theorem pen_step {L : List Ln} {q j : Nat} {x : Ln} {s : Int} (hq : L.length = q) (hj : j < q) (hx : L.getD j default = x) (hs : penP allP 0 (L.take j) = s) : penP allP 0 (L.take (j + 1)) = s + x.c := by
  rw [tk_snoc' hq hj hx, penP_snoc, hs]; rfl
theorem pen_all' {l : List Int} {h : Int} (hv : textOk l h = true) : penP allP 0 (textV l h) = 250 * longOf l := pen_all hv
theorem pen_rng {L : List Ln} {q j : Nat} {s : Int} (hL : ∀ x ∈ L, 0 ≤ x.c ∧ x.c ≤ 250) (hq : L.length = q) (hj : j ≤ q) (hs : penP allP 0 (L.take j) = s) : 0 ≤ s ∧ s ≤ 250 * (j : Int) := by
  have := penP_bound allP (L.take j) 0 fun x hx => hL x (List.mem_of_mem_take hx)
  rw [hs, List.length_take, Nat.min_eq_left (by omega)] at this
  exact this
theorem long_rng (l : List Int) : 0 ≤ longOf l ∧ longOf l ≤ l.length := by
  have := sum_bound (l := l.map fun x => bit (decide (1 < x))) (a := 0) (b := 1) fun x hx => by
    obtain ⟨y, _, rfl⟩ := List.mem_map.1 hx
    exact bit_bound _
  rw [List.length_map] at this
  unfold longOf
  omega
theorem long_step {xs : List Int} {m j : Nat} {x : Int} (hn : xs.length = m) (hj : j < m) (hx : xs.getD j default = x) : longOf (xs.take (j + 1)) = longOf (xs.take j) + bit (decide (1 < x)) := by
  rw [tk_snoc' hn hj hx, longOf_snoc]

set_option maxHeartbeats 4000000 in
theorem law_TextLines (A : Option Addr) (n cap : Nat) (cs : List Int) (w : World) (hc : Code w A n cap cs) :
    Calls Try.prog 6 #[.slice A n cap] w fun e w' => e = .returned (.bool true) ∧ Below w.heap.size w w' := by
  have hn := hc.1
  unfold maxLen at hn
  by_cases hbig : 1048576 < n
  · go_enter Try.func6, Try.ntmps6
    go_wp2
    go_returns
    exact ⟨rfl, Below.refl _ _⟩
  go_enter Try.func6, Try.ntmps6
  go_wp2_with fail
  ((with_reducible refine (DrawTextLines_any _ _ _ cs _ hc).mono ?_); rintro e w1 ⟨B, m, c, xs, h, rfl, hx, hm, hxb, hr1, hb1⟩)
  have HX := Lib.hid hx; clear hx
  have HXB := Lib.hid hxb; clear hxb
  have hmx : m ≤ maxLen := by unfold maxLen; omega
  have hz1 := hb1.size
  obtain ⟨L, hL⟩ : ∃ L, textV xs h = L := ⟨_, rfl⟩
  have hq40 := textV_len xs h
  have hLc : ∀ x ∈ L, 0 ≤ x.c ∧ x.c ≤ 250 := fun x hx => textV_line (l := xs) (h := h) (hL ▸ hx)
  rw [hL] at hq40
  obtain ⟨q, hq⟩ : ∃ q, L.length = q := ⟨_, rfl⟩
  rw [hq] at hq40
  have HL := Lib.hid hL
  have HQ := Lib.hid hq
  have HLC := Lib.hid hLc
  have hqx : q ≤ maxLen := by unfold maxLen; omega
  clear hL hq hLc
  go_wp2_with fail
  ((with_reducible refine ((textLines_i _ _ _ h xs _ HX.out hmx ?_).mono fun _ _ h => out_of HL.out HQ.out h).mono ?_); (exact hr1); rintro e w2 ⟨A2, d2, rfl, g2, hb2⟩)
  have hr2 := hr1.then_ hb2
  have hz2 := hb2.size
  go_wp2_with fail
  ((with_reducible refine ((textLines_s _ _ _ h xs _ HX.out hmx ?_).mono fun _ _ h => out_of HL.out HQ.out h).mono ?_); (exact hr2); rintro e w3 ⟨A3, d3, rfl, g3, hb3⟩)
  have hr3 := hr2.then_ hb3
  have ga := (g2.then_ hb3).row
  have gb := g3.row
  have hz3 := hb3.size
  have hB3 : Below w.heap.size w w3 := by (repeat' (first | (with_reducible exact Below.refl _ _) | (with_reducible assumption) | (with_reducible refine Below.alloc ?_ ?_ _) | (with_reducible refine Below.drew ?_) | (with_reducible refine below_drewN ?_ _) | (with_reducible refine Below.setCell ?_ ?_ _) | (with_reducible refine below_then ?_ ?_ (by with_reducible assumption)) | (with_reducible exact Nat.le_refl _) | go_size | (simp only [*]; done)))
  have HR3 := Lib.hid hr3
  have GA := Lib.hid ga
  have GB := Lib.hid gb
  clear hr1 hr2 hr3 ga gb g2 g3
  go_wp2_with fail
  go_loopg [7, 8] q (fun k t i wr => ∃ (j : Nat) (s : Int), j ≤ q ∧ k = q - j ∧ i = .int .i64 j ∧ t = .int .i64 s ∧ Hid (penP allP 0 (L.take j) = s) ∧ Below w3.heap.size w3 wr)
  case atStart => exact ⟨0, 0, Nat.zero_le _, rfl, rfl, rfl, rfl, Below.refl _ _⟩
  case round =>
    obtain ⟨j, s, hj, hk, rfl, rfl, hs, hbel⟩ := hrel
    have HK := Lib.hid hk; clear hk
    have hsz := hbel.size
    obtain ⟨s0, s1⟩ := pen_rng HLC.out HQ.out hj hs.out
    by_cases hlt : j < q
    · obtain ⟨b', off', rfl, hb', hc'⟩ := GB.out (by omega)
      have d0 : wr.cell? ⟨b', off' + j * 3, none⟩ = _ := (hbel.cell (p := ⟨b', off' + j * 3, none⟩) hb').trans (hc' j 0 hlt (by omega))
      have d1 : wr.cell? ⟨b', off' + j * 3 + 1, none⟩ = _ := (hbel.cell (p := ⟨b', off' + j * 3 + 1, none⟩) hb').trans (hc' j 1 hlt (by omega))
      have d2 : wr.cell? ⟨b', off' + j * 3 + 2, none⟩ = _ := (hbel.cell (p := ⟨b', off' + j * 3 + 2, none⟩) hb').trans (hc' j 2 hlt (by omega))
      obtain ⟨b, off, rfl, hb, hcc⟩ := GA.out (by omega)
      have c0 : wr.cell? ⟨b, off + j * 3, none⟩ = _ := (hbel.cell (p := ⟨b, off + j * 3, none⟩) hb).trans (hcc j 0 hlt (by omega))
      have c1 : wr.cell? ⟨b, off + j * 3 + 1, none⟩ = _ := (hbel.cell (p := ⟨b, off + j * 3 + 1, none⟩) hb).trans (hcc j 1 hlt (by omega))
      have c2 : wr.cell? ⟨b, off + j * 3 + 2, none⟩ = _ := (hbel.cell (p := ⟨b, off + j * 3 + 2, none⟩) hb).trans (hcc j 2 hlt (by omega))
      obtain ⟨x, hx⟩ : ∃ x, L.getD j default = x := ⟨_, rfl⟩
      simp only [lnc, hx] at c0 c1 c2 d0 d1 d2
      have hst := pen_step HQ.out hlt hx hs.out
      have hxc := HLC.out x (mem_of_getD HQ.out hlt hx)
      obtain ⟨x0, x1⟩ := hxc
      have HST := Lib.hid hst
      clear hcc hc' hx hst
      have hlt' : (j : Int) < (q : Int) := by omega
      go_wp2_with fail
      go_quiet (fail)
      go_wp2_with fail
      go_roundg (q - (j + 1))
      case measure => have := HK.out; omega
      case rel => exact ⟨j + 1, s + x.c, by omega, rfl, by go_num, by go_num, HST.out, by (repeat' (first | (with_reducible exact Below.refl _ _) | (with_reducible assumption) | (with_reducible refine Below.alloc ?_ ?_ _) | (with_reducible refine Below.drew ?_) | (with_reducible refine below_drewN ?_ _) | (with_reducible refine Below.setCell ?_ ?_ _) | (with_reducible refine below_then ?_ ?_ (by with_reducible assumption)) | (with_reducible exact Nat.le_refl _) | go_size | (simp only [*]; done)))⟩
    · have ej : j = q := by omega
      have hfin : penP allP 0 L = s := by have := hs.out; rwa [List.take_of_length_le (by rw [HQ.out]; omega)] at this
      have HFIN := Lib.hid hfin
      subst ej
      obtain ⟨wo, hwo⟩ : ∃ wo : World, wo = wr := ⟨_, rfl⟩
      subst hwo
      have hB4 := below_then (Nat.le_refl _) hB3 hbel
      have hz4 : w.heap.size ≤ wo.heap.size := by omega
      have hr4 := HR3.out.then_ hbel
      have ga4 := GA.out.then_ hbel
      have HR4 := Lib.hid hr4
      have GA4 := Lib.hid ga4
      clear hfin hr4 ga4 hlt
      go_wp2_with fail
      go_loopg [9, 10] m (fun k t i wr => ∃ (j : Nat) (s : Int), j ≤ m ∧ k = m - j ∧ i = .int .i64 j ∧ t = .int .i64 (250 * s) ∧ 0 ≤ s ∧ s ≤ j ∧ Hid (longOf (xs.take j) = s) ∧ Below wo.heap.size wo wr)
      case atStart => exact ⟨0, 0, Nat.zero_le _, rfl, rfl, rfl, by omega, by omega, rfl, Below.refl _ _⟩
      case round =>
        obtain ⟨j2, s2, hj2, hk2, rfl, rfl, s20, s21, hs2, hbel2⟩ := hrel
        have HK2 := Lib.hid hk2; clear hk2
        have hsz2 := hbel2.size
        by_cases hlt2 : j2 < m
        · obtain ⟨b, off, hAA, hb, hc'⟩ := HR4.out.at1 (by omega)
          have c0 : wr.cell? ⟨b, off + j2, none⟩ = _ := (hbel2.cell (p := ⟨b, off + j2, none⟩) hb).trans (hc' j2 hlt2)
          subst hAA
          obtain ⟨x, hx⟩ : ∃ x, xs.getD j2 default = x := ⟨_, rfl⟩
          simp only [inc, hx] at c0
          have hst := long_step HX.out hlt2 hx
          rw [hs2.out] at hst
          have HST := Lib.hid hst
          have hlt2' : (j2 : Int) < (m : Int) := by omega
          clear hx hc' hst
          by_cases h1 : 1 < x
          all_goals
            go_wp2_with fail
            go_roundg (m - (j2 + 1))
            case measure => have := HK2.out; omega
            case rel =>
              first
              | exact ⟨j2 + 1, s2 + 1, by omega, rfl, by go_num, by go_num, by omega, by omega, (by show _ = _; rw [HST.out, bit, decide_eq_true h1]; rfl), by (repeat' (first | (with_reducible exact Below.refl _ _) | (with_reducible assumption) | (with_reducible refine Below.alloc ?_ ?_ _) | (with_reducible refine Below.drew ?_) | (with_reducible refine below_drewN ?_ _) | (with_reducible refine Below.setCell ?_ ?_ _) | (with_reducible refine below_then ?_ ?_ (by with_reducible assumption)) | (with_reducible exact Nat.le_refl _) | go_size | (simp only [*]; done)))⟩
              | exact ⟨j2 + 1, s2, by omega, rfl, by go_num, by go_num, by omega, by omega, (by show _ = _; rw [HST.out, bit, decide_eq_false (by omega)]; simp), by (repeat' (first | (with_reducible exact Below.refl _ _) | (with_reducible assumption) | (with_reducible refine Below.alloc ?_ ?_ _) | (with_reducible refine Below.drew ?_) | (with_reducible refine below_drewN ?_ _) | (with_reducible refine Below.setCell ?_ ?_ _) | (with_reducible refine below_then ?_ ?_ (by with_reducible assumption)) | (with_reducible exact Nat.le_refl _) | go_size | (simp only [*]; done)))⟩
        · have efin : longOf xs = s2 := by have := hs2.out; rwa [List.take_of_length_le (by rw [HX.out]; omega)] at this
          have HEF := Lib.hid efin
          have hB5 := below_then (Nat.le_refl _) hB4 hbel2
          have hz5 : w.heap.size ≤ wr.heap.size := by omega
          have hr5 := HR4.out.then_ hbel2
          have ga5 := GA4.out.then_ hbel2
          by_cases h0 : j = 0
          · subst h0
            go_wp2_with fail
            go_returns
            exact ⟨rfl, hB5⟩
          · have hv : textOk xs h = true := by
              rcases hv : textOk xs h with _ | _
              · have := HL.out
                rw [text_no hv] at this
                have h2 := HQ.out
                rw [← this] at h2
                simp at h2
                omega
              · rfl
            obtain ⟨hok, hsum, _⟩ := textV_ok hv
            have hpen := pen_all' hv
            rw [HL.out] at hok hsum hpen
            rw [HQ.out] at hsum
            rw [HEF.out, HFIN.out] at hpen
            subst hpen
            have h0' : ((j : Int) == 0) = false := by simp; omega
            have HOK := Lib.hid hok
            have HSUM := Lib.hid hsum
            clear hok hsum efin hv h0
            go_wp2_with fail
            ((with_reducible refine (validLines_i _ _ _ L _ HQ.out hqx ?_).mono ?_); (exact ga5); rintro e w6 ⟨rfl, hb6⟩)
            rw [HOK.out]
            have hr6 := hr5.then_ hb6
            have hz6 := hb6.size
            go_wp2_with fail
            ((with_reducible refine (sum_any _ _ _ xs _ HX.out (by omega) (fun x hx => by have := HXB.out x hx; omega) ?_).mono ?_); (exact hr6); rintro e w7 ⟨rfl, hb7⟩)
            rw [← HSUM.out]
            go_wp2_with fail
            go_returns
            exact ⟨rfl, below_then (Nat.le_refl _) (below_then (Nat.le_refl _) hB5 hb6) hb7⟩
end Go.Proofs.Ytlgbeoghjjjlmaa
