/- TextLines of the program returns the plain list. Conditions: the slice reads as the list. -/
import Derived.Test.YtlgbeoghjjjlmaaTextS
import Derived.Test.YtlgbeoghjjjlmaaTextPlain2
namespace Go.Proofs.Ytlgbeoghjjjlmaa
open Go.RowKit

set_option maxHeartbeats 4000000 in
theorem textLines_i (A : Option Addr) (n cap : Nat) (h : Int) (xs : List Int) (w : World) (hn : xs.length = n) (hm : n ≤ maxLen) (hr : Row w w.heap.size 1 A n (inc xs)) :
    Calls Try.prog 21 #[.slice A n cap, .int .i64 h] w (LinesOut w (textV xs h)) := by
  obtain ⟨j0, ji, jz0, jz1, jz2⟩ := info_parts line_info
  rcases hok : sizesOk xs with _ | _
  · rw [text_no (show textOk xs h = false by rw [textOk, hok]; rfl)]
    go_enter Try.func21, Try.ntmps21
    go_wp2_with fail
    ((with_reducible refine (validSizes_i _ _ _ xs _ hn hm ?_).mono ?_); (exact hr); rintro e w1 ⟨rfl, hb⟩)
    rw [hok]
    go_wp2
    go_ret
    exact ⟨none, 0, rfl, linesNone _ _, hb⟩
  rcases hih : inR h 1 1000 with _ | _
  · rw [text_no (show textOk xs h = false by rw [textOk, hih, Bool.and_false])]
    go_enter Try.func21, Try.ntmps21
    go_wp2_with fail
    ((with_reducible refine (validSizes_i _ _ _ xs _ hn hm ?_).mono ?_); (exact hr); rintro e w1 ⟨rfl, hb⟩)
    rw [hok]
    go_wp2_with fail
    ((with_reducible refine (within_any _ _ _ _).mono ?_); rintro e w' ⟨rfl, rfl⟩)
    rw [hih]
    go_wp2
    go_ret
    exact ⟨none, 0, rfl, linesNone _ _, hb⟩
  rw [text_yes (show textOk xs h = true by rw [textOk, hok, hih]; rfl)]
  have HOK := Lib.hid hok
  have HN := Lib.hid hn
  have hs := sizes_ok hok
  have hlen := hs.2.2.2
  rw [hn] at hlen
  go_enter Try.func21, Try.ntmps21
  go_wp2_with fail
  ((with_reducible refine (validSizes_i _ _ _ xs _ hn hm ?_).mono ?_); (exact hr); rintro e w1 ⟨rfl, hb⟩)
  rw [hok]
  have hz1 := hb.size
  have HR := Lib.hid hr
  obtain ⟨S, hS⟩ : ∃ S : Nat, xs.sum = S := Int.eq_ofNat_of_zero_le (by have := sum_pos hs.1; omega)
  have HS := Lib.hid hS
  have hB1 : Below w.heap.size w w1 := hb
  have hE1 := Lib.hid (linesNone w1 w.heap.size)
  clear hok hr hs hS hn
  go_wp2_with fail
  ((with_reducible refine (within_any _ _ _ _).mono ?_); rintro e w' ⟨rfl, rfl⟩)
  rw [hih]
  clear hih
  go_wp2_with fail
  go_loopg [5, 19] n (fun k o i wr => ∃ (j q d : Nat) (A' : Option Addr), j ≤ n ∧ k = n - j ∧ i = .int .i64 j ∧ o = .slice A' q d ∧ Hid ((xs.take j).sum = q) ∧ q ≤ 40 ∧ Hid (wr.ownsRow w.heap.size 36 3 (.slice A' q d) q ((textL h (xs.take j)).flatMap lnl)) ∧ Below w.heap.size w wr)
  case atStart => exact ⟨0, 0, 0, none, Nat.zero_le _, rfl, rfl, rfl, rfl, by omega, hE1.out, hB1⟩
  case round =>
    obtain ⟨j, q, d, A', hj, hk, rfl, rfl, hsum, hq40, hown, hbel⟩ := hrel
    have HK := Lib.hid hk; clear hk
    obtain ⟨wo, hwo⟩ : ∃ wo : World, wo = wr := ⟨_, rfl⟩
    subst hwo
    have hsz := hbel.size
    by_cases hlt : j < n
    · obtain ⟨b', off, hBB, hb', hc'⟩ := HR.out.at1 (by omega)
      have c00 := hc' j hlt
      subst hBB
      obtain ⟨x, hx⟩ : ∃ x, xs.getD j default = x := ⟨_, rfl⟩
      simp only [inc, hx] at c00
      have hcw := cw_all HOK.out HS.out j (by rw [HN.out]; omega)
      have hsz2 := size_at HOK.out HN.out hlt hx hcw
      rw [hsum.out] at hsz2
      obtain ⟨x1, x2, x3, x4⟩ := hsz2
      obtain ⟨xn, rfl⟩ := Int.eq_ofNat_of_zero_le (show 0 ≤ x by omega)
      have hnext : (xs.take (j + 1)).sum = ((q + xn : Nat) : Int) := by
        rw [tk_snoc' HN.out hlt hx, sum_snoc, hsum.out]; omega
      have hnextl : textL h (xs.take (j + 1)) = textL h (xs.take j) ++ parL h (xn : Int) xn := by
        rw [tk_snoc' HN.out hlt hx, textL_snoc]; rfl
      have HNX := Lib.hid hnext
      have HNL := Lib.hid hnextl
      have HC := Lib.hid c00
      have hltj : (j : Int) < (n : Int) := by omega
      have c1 : wo.cell? ⟨b', off + j, none⟩ = _ := (hbel.cell (p := ⟨b', off + j, none⟩) hb').trans c00
      clear hc' hx hcw hnext hnextl c00
      go_wp2_with fail
      go_loopg [5, 26] xn (fun kk o2 k2 wi => ∃ (t r d2 : Nat) (A2 : Option Addr), t ≤ xn ∧ kk = xn - t ∧ k2 = .int .i64 t ∧ o2 = .slice A2 r d2 ∧ Hid (q + t = r) ∧ Hid (wi.ownsRow w.heap.size 36 3 (.slice A2 r d2) r ((textL h (xs.take j) ++ List.replicate t (⟨h, 0, 0⟩ : Ln)).flatMap lnl)) ∧ Below w.heap.size w wi)
      case atStart => exact ⟨0, q, d, A', Nat.zero_le _, rfl, rfl, rfl, rfl, (by show World.ownsRow _ _ _ _ _ _ _; rw [List.replicate_zero, List.append_nil]; exact hown.out), hbel⟩
      case round =>
        obtain ⟨t, r, d2, A2, ht, hkt, rfl, rfl, hqr, howni, hbi⟩ := hrel
        have HKT := Lib.hid hkt; clear hkt
        have hszi := hbi.size
        by_cases htx : t < xn
        · have hr40 : r ≤ 40 := by have := hqr.out; omega
          have HO := Lib.hid (howni.out.alloc (.cells #[.int .i64 h, .int .i64 0, .int .i64 0] 36))
          have HB2 := Lib.hid (Blk.new wr 36 #[.int .i64 h, .int .i64 0, .int .i64 0])
          have HSI := Lib.hid (show w.heap.size ≤ (wr.alloc (.cells #[.int .i64 h, .int .i64 0, .int .i64 0] 36)).heap.size by simp; omega)
          go_wp2_with (at_builtin; (refine wpList_append_one _ rfl _ _ 33 rfl w.heap.size 36 j0 _ 3 24 Try.underlying33 ji jz0 jz1 jz2 rfl (by omega) A2 r d2 ((textL h (xs.take j) ++ List.replicate t (⟨h, 0, 0⟩ : Ln)).flatMap lnl) rfl HO.out wr.heap.size (lnl ⟨h, 0, 0⟩) rfl rfl HB2.out (lnl_one _) (by omega) (by omega) HSI.out ?_); intro g' d' w4 hown4 hgr4)
          have HO4 := Lib.hid hown4
          have hb4 : Below w.heap.size w w4 := (hbi.alloc hszi _).grown hgr4 (by simp; omega) (fun k hk => by have := (HO.out.lt k hk).1; omega)
          clear hown4
          go_wp2_with fail
          go_roundg (xn - (t + 1))
          case measure => have := HKT.out; omega
          case rel =>
            refine ⟨t + 1, r + 1, d', some ⟨g', 0, none⟩, by omega, rfl, by go_num, by go_num, (by have := hqr.out; show _ = _; omega), ?_, hb4⟩
            show World.ownsRow _ _ _ _ _ _ _
            rw [List.replicate_succ', ← List.append_assoc, flat_snoc]; exact HO4.out
        · have hrq : r = q + xn := by have := hqr.out; omega
          have etx : t = xn := by omega
          subst hrq etx
          by_cases h1 : t = 1
          · subst h1
            go_wp2_with fail
            go_roundg (n - (j + 1))
            case measure => have := HK.out; omega
            case rel =>
              exact ⟨j + 1, q + 1, d2, A2, by omega, rfl, by go_num, rfl, HNX.out, by omega, (by show World.ownsRow _ _ _ _ _ _ _; rw [HNL.out]; have := howni.out; rw [parL_one] at this; exact this), hbi⟩
          · have hbl : (textL h (xs.take j)).length = q := by
              have e1 := textL_len h (l := xs.take j) (List.all_eq_true.2 fun y hy => List.all_eq_true.1 (sizes_ok HOK.out).1 y (List.mem_of_mem_take hy))
              rw [hsum.out] at e1
              omega
            obtain ⟨g2, hA2⟩ : ∃ g2, A2 = some ⟨g2, 0, none⟩ := by
              rcases howni.out.2 with ⟨_, h0⟩ | ⟨g2, cap, cur, hv, _⟩
              · omega
              · injection hv with hv _ _
                exact ⟨g2, hv⟩
            subst hA2
            have hLl : (textL h (xs.take j) ++ List.replicate t (⟨h, 0, 0⟩ : Ln)).length = q + t := by simp [hbl]
            obtain ⟨u, hu⟩ : ∃ u, q + t - 2 = u := ⟨_, rfl⟩
            have hgb := (howni.out.lt g2 rfl).1
            have k0 := howni.out.cellAt (q * 3 + 2) (by omega)
            rw [lnl_at q 2 (by omega) (by omega)] at k0
            have l0 := howni.out.frozenAt (q * 3 + 2)
            have hz : (textL h (xs.take j) ++ List.replicate t (⟨h, 0, 0⟩ : Ln)).getD q default = ⟨h, 0, 0⟩ := by
              rw [List.getD_eq_getElem?_getD, List.getElem?_append_right (by omega), List.getElem?_replicate, if_pos (by omega)]; rfl
            simp only [lnc, hz] at k0
            have hst := (howni.out.stored (q * 3 + 2) (.int .i64 100)).1
            rw [lnl_setC _ q (by omega), hz] at hst
            have e2 : (textL h (xs.take j) ++ List.replicate t (⟨h, 0, 0⟩ : Ln)).set q ⟨h, 0, 100⟩ = textL h (xs.take j) ++ (List.replicate t (⟨h, 0, 0⟩ : Ln)).set 0 ⟨h, 0, 100⟩ := by
              have := set_base (textL h (xs.take j)) (List.replicate t (⟨h, 0, 0⟩ : Ln)) 0 ⟨h, 0, 100⟩
              rwa [hbl] at this
            rw [e2] at hst
            have hl2 : (textL h (xs.take j) ++ (List.replicate t (⟨h, 0, 0⟩ : Ln)).set 0 ⟨h, 0, 100⟩).length = q + t := by simp [hbl]
            have k1 := hst.cellAt (u * 3 + 2) (by omega)
            rw [lnl_at u 2 (by omega) (by omega)] at k1
            have l1 := hst.frozenAt (u * 3 + 2)
            have hst2 := fun v => (hst.stored (u * 3 + 2) (.int .i64 v)).1
            have hui : (q : Int) + (t : Int) - 2 = (u : Int) := by omega
            have ht1 : (1 : Int) < (t : Int) := by omega
            have HST2 := Lib.hid hst2
            have HBL := Lib.hid hbl
            have HL2 := Lib.hid hl2
            have hbS : Below w.heap.size w (wr.setCell ⟨g2, q * 3 + 2, none⟩ (.int .i64 100)) := by (repeat' (first | (with_reducible exact Below.refl _ _) | (with_reducible assumption) | (with_reducible refine Below.alloc ?_ ?_ _) | (with_reducible refine Below.drew ?_) | (with_reducible refine below_drewN ?_ _) | (with_reducible refine Below.setCell ?_ ?_ _) | (with_reducible refine below_then ?_ ?_ (by with_reducible assumption)) | (with_reducible exact Nat.le_refl _) | go_size | (simp only [*]; done)))
            have hbS2 : ∀ v, Below w.heap.size w ((wr.setCell ⟨g2, q * 3 + 2, none⟩ (.int .i64 100)).setCell ⟨g2, u * 3 + 2, none⟩ (.int .i64 v)) := fun v => by (repeat' (first | (with_reducible exact Below.refl _ _) | (with_reducible assumption) | (with_reducible refine Below.alloc ?_ ?_ _) | (with_reducible refine Below.drew ?_) | (with_reducible refine below_drewN ?_ _) | (with_reducible refine Below.setCell ?_ ?_ _) | (with_reducible refine below_then ?_ ?_ (by with_reducible assumption)) | (with_reducible exact Nat.le_refl _) | go_size | (simp only [*]; done)))
            have HBS2 := Lib.hid hbS2
            clear hst hst2 e2 hbl hLl hl2 hz hbS hbS2
            by_cases h2 : t = 2
            · subst h2
              obtain rfl : u = q := by omega
              have hx : (textL h (xs.take j) ++ (List.replicate 2 (⟨h, 0, 0⟩ : Ln)).set 0 ⟨h, 0, 100⟩).getD u default = ⟨h, 0, 100⟩ := by
                have := HBL.out
                rw [List.getD_eq_getElem?_getD, List.getElem?_append_right (by omega), show u - (textL h (xs.take j)).length = 0 by omega]; rfl
              simp only [lnc, hx] at k1
              have hfin := HST2.out 250
              rw [lnl_setC _ u (by rw [HL2.out]; omega), hx] at hfin
              have HF := Lib.hid hfin
              clear hx hfin
              go_wp2_with fail
              go_roundg (n - (j + 1))
              case measure => have := HK.out; omega
              case rel =>
                refine ⟨j + 1, u + 2, d2, some ⟨g2, 0, none⟩, by omega, rfl, by go_num, rfl, HNX.out, by omega, ?_, HBS2.out 250⟩
                show World.ownsRow _ _ _ _ _ _ _
                rw [HNL.out]
                have e3 := set_base (textL h (xs.take j)) ((List.replicate 2 (⟨h, 0, 0⟩ : Ln)).set 0 ⟨h, 0, 100⟩) 0 ⟨h, 0, 250⟩
                rw [HBL.out, Nat.add_zero] at e3
                have := HF.out
                rw [e3] at this
                rw [parL_two] at this
                exact this
            · have hx : (textL h (xs.take j) ++ (List.replicate t (⟨h, 0, 0⟩ : Ln)).set 0 ⟨h, 0, 100⟩).getD u default = ⟨h, 0, 0⟩ := by
                have := HBL.out
                rw [List.getD_eq_getElem?_getD, List.getElem?_append_right (by omega), List.getElem?_set_ne (by omega), List.getElem?_replicate, if_pos (by omega)]; rfl
              simp only [lnc, hx] at k1
              have hfin := HST2.out 150
              rw [lnl_setC _ u (by rw [HL2.out]; omega), hx] at hfin
              have HF := Lib.hid hfin
              clear hx hfin
              go_wp2_with fail
              go_roundg (n - (j + 1))
              case measure => have := HK.out; omega
              case rel =>
                refine ⟨j + 1, q + t, d2, some ⟨g2, 0, none⟩, by omega, rfl, by go_num, rfl, HNX.out, by omega, ?_, HBS2.out 150⟩
                show World.ownsRow _ _ _ _ _ _ _
                rw [HNL.out]
                have e3 := set_base (textL h (xs.take j)) ((List.replicate t (⟨h, 0, 0⟩ : Ln)).set 0 ⟨h, 0, 100⟩) (t - 2) ⟨h, 0, 150⟩
                rw [HBL.out, show q + (t - 2) = u by omega] at e3
                have := HF.out
                rw [e3] at this
                rw [parL_many h t (by omega)] at this
                exact this
    · have etk : xs.take j = xs := List.take_of_length_le (by rw [HN.out]; omega)
      have el : (textL h xs).length = q := by
        have h1 := textL_len h (sizes_ok HOK.out).1
        have h2 := hsum.out
        rw [etk] at h2
        omega
      have EL := Lib.hid el
      have HOF := Lib.hid hown.out
      have ETK := Lib.hid etk
      clear etk el
      go_wp2_with fail
      go_ret
      refine ⟨A', d, by rw [EL.out]; rfl, ?_, hbel⟩
      have := HOF.out
      rw [ETK.out] at this
      rw [EL.out]; exact this
end Go.Proofs.Ytlgbeoghjjjlmaa
