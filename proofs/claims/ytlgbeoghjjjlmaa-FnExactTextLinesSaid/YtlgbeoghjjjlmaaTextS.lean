/- TextLines of the reference returns the plain list. Conditions: the slice reads as the list. -/
import Derived.Test.YtlgbeoghjjjlmaaTextPlain
import Derived.Test.YtlgbeoghjjjlmaaWidowPlain
import Derived.OneCell
namespace Go.Proofs.Ytlgbeoghjjjlmaa
open Go.RowKit

/-- What a call leaves that returns lines of its own. -/
def LinesOut (w : World) (ys : List Ln) (e : Ending) (w' : World) : Prop :=
  ∃ (A : Option Addr) (c : Nat), e = .returned (.slice A ys.length c) ∧ w'.ownsRow w.heap.size 36 3 (.slice A ys.length c) ys.length (ys.flatMap lnl) ∧ Below w.heap.size w w'
theorem owns_then {w w' : World} {base sz n : Nat} {e : TypeId} {A : Option Addr} {c : Nat} {xs : List Value} (h : w.ownsRow base e sz (.slice A n c) n xs) (hb : Below w.heap.size w w') : w'.ownsRow base e sz (.slice A n c) n xs :=
  h.kept (row := none) ⟨hb.os, hb.tape, hb.output, hb.size, fun k hk _ => hb.block k hk⟩ (by cases hv : Value.ownBlock (.slice A n c) <;> simp)
theorem linesNone (w : World) (base : Nat) : w.ownsRow base 36 3 (.slice none 0 0) 0 [] := ⟨rfl, .inl ⟨rfl, rfl⟩⟩

set_option maxHeartbeats 4000000 in
theorem textLines_s (A : Option Addr) (n cap : Nat) (h : Int) (xs : List Int) (w : World) (hn : xs.length = n) (hm : n ≤ maxLen) (hr : Row w w.heap.size 1 A n (inc xs)) :
    Calls Try.prog 22 #[.slice A n cap, .int .i64 h] w (LinesOut w (textV xs h)) := by
  obtain ⟨j0, ji, jz0, jz1, jz2⟩ := info_parts line_info
  have hE := Lib.hid (owns_nil _ w.heap.size 36 3 0 _ _ (Blk.new w 36 #[]) (Nat.le_refl _) (by unfold maxLen; omega) rfl)
  have hb0 : Below w.heap.size w (w.alloc (.cells #[] 36)) := (Below.refl _ _).alloc (Nat.le_refl _) _
  have hr0 := (hr.below hb0).more hb0.size
  rcases hok : sizesOk xs with _ | _
  · rw [text_no (show textOk xs h = false by rw [textOk, hok]; rfl)]
    go_enter Try.func22, Try.ntmps22
    go_wp2_with fail
    ((with_reducible refine (validParts_s _ _ _ xs _ hn hm ?_).mono ?_); (exact hr0); rintro e w1 ⟨rfl, hb⟩)
    rw [hok]
    go_wp2
    go_ret
    exact ⟨none, 0, rfl, linesNone _ _, below_then (by simp) hb0 hb⟩
  rcases hih : inR h 1 1000 with _ | _
  · rw [text_no (show textOk xs h = false by rw [textOk, hih, Bool.and_false])]
    go_enter Try.func22, Try.ntmps22
    go_wp2_with fail
    ((with_reducible refine (validParts_s _ _ _ xs _ hn hm ?_).mono ?_); (exact hr0); rintro e w1 ⟨rfl, hb⟩)
    rw [hok]
    go_wp2_with fail
    ((with_reducible refine (inRange_any _ _ _ _).mono ?_); rintro e w' ⟨rfl, rfl⟩)
    rw [hih]
    go_wp2
    go_ret
    exact ⟨none, 0, rfl, linesNone _ _, below_then (by simp) hb0 hb⟩
  rw [text_yes (show textOk xs h = true by rw [textOk, hok, hih]; rfl)]
  have HOK := Lib.hid hok
  have HN := Lib.hid hn
  have hs := sizes_ok hok
  have hlen := hs.2.2.2
  rw [hn] at hlen
  go_enter Try.func22, Try.ntmps22
  go_wp2_with fail
  ((with_reducible refine (validParts_s _ _ _ xs _ hn hm ?_).mono ?_); (exact hr0); rintro e w1 ⟨rfl, hb⟩)
  rw [hok]
  have hz1 := hb.size
  have HR := Lib.hid hr
  obtain ⟨S, hS⟩ : ∃ S : Nat, xs.sum = S := Int.eq_ofNat_of_zero_le (by have := sum_pos hs.1; omega)
  have HS := Lib.hid hS
  have hB1 : Below w.heap.size w w1 := below_then (by simp) hb0 hb
  have hE1 := Lib.hid (owns_then hE.out hb)
  clear hok hr hr0 hs hS hn
  go_wp2_with fail
  ((with_reducible refine (inRange_any _ _ _ _).mono ?_); rintro e w' ⟨rfl, rfl⟩)
  rw [hih]
  clear hih
  go_wp2_with fail
  go_loopg [5, 6] n (fun k o i wr => ∃ (j q g d : Nat), j ≤ n ∧ k = n - j ∧ i = .int .i64 j ∧ o = .slice (some ⟨g, 0, none⟩) q d ∧ Hid ((xs.take j).sum = q) ∧ q ≤ 40 ∧ Hid (wr.ownsRow w.heap.size 36 3 (.slice (some ⟨g, 0, none⟩) q d) q ((textL h (xs.take j)).flatMap lnl)) ∧ Below w.heap.size w wr)
  case atStart => exact ⟨0, 0, w.heap.size, 0, Nat.zero_le _, rfl, rfl, rfl, rfl, by omega, hE1.out, hB1⟩
  case round =>
    obtain ⟨j, q, g, d, hj, hk, rfl, rfl, hsum, hq40, hown, hbel⟩ := hrel
    have HK := Lib.hid hk; clear hk
    obtain ⟨wo, hwo⟩ : ∃ wo : World, wo = wr := ⟨_, rfl⟩
    subst hwo
    have hsz := hbel.size
    by_cases hlt : j < n
    · obtain ⟨b', off, hBB, hb', hc'⟩ := HR.out.at1 (by omega)
      have c00 := hc' j hlt
      subst hBB
      obtain ⟨x, hx⟩ : ∃ x, xs.getD j default = x := ⟨_, rfl⟩
      simp only [inc, hx] at c00
      have hcw := cw_all HOK.out HS.out j (by rw [HN.out]; omega)
      have hsz2 := size_at HOK.out HN.out hlt hx hcw
      rw [hsum.out] at hsz2
      obtain ⟨x1, x2, x3, x4⟩ := hsz2
      obtain ⟨xn, rfl⟩ := Int.eq_ofNat_of_zero_le (show 0 ≤ x by omega)
      have hnext : (xs.take (j + 1)).sum = ((q + xn : Nat) : Int) := by
        rw [tk_snoc' HN.out hlt hx, sum_snoc, hsum.out]; omega
      have hnextl : textL h (xs.take (j + 1)) = textL h (xs.take j) ++ parL h (xn : Int) xn := by
        rw [tk_snoc' HN.out hlt hx, textL_snoc]; rfl
      have HNX := Lib.hid hnext
      have HNL := Lib.hid hnextl
      have HC := Lib.hid c00
      have hltj : (j : Int) < (n : Int) := by omega
      clear hc' hx hcw hnext hnextl c00
      go_wp2_with fail
      go_loopg [5, 7] xn (fun kk o2 k2 wi => ∃ (t r g2 d2 : Nat), t ≤ xn ∧ kk = xn - t ∧ k2 = .int .i64 t ∧ o2 = .slice (some ⟨g2, 0, none⟩) r d2 ∧ Hid (q + t = r) ∧ Hid (wi.ownsRow w.heap.size 36 3 (.slice (some ⟨g2, 0, none⟩) r d2) r ((textL h (xs.take j) ++ parL h (xn : Int) t).flatMap lnl)) ∧ Below w.heap.size w wi)
      case atStart => exact ⟨0, q, g, d, Nat.zero_le _, rfl, rfl, rfl, rfl, (by show World.ownsRow _ _ _ _ _ _ _; rw [show parL h (xn : Int) 0 = [] from rfl, List.append_nil]; exact hown.out), hbel⟩
      case round =>
        obtain ⟨t, r, g2, d2, ht, hkt, rfl, rfl, hqr, howni, hbi⟩ := hrel
        have HKT := Lib.hid hkt; clear hkt
        have hszi := hbi.size
        have c1 : wr.cell? ⟨b', off + j, none⟩ = _ := (hbi.cell (p := ⟨b', off + j, none⟩) hb').trans HC.out
        by_cases htx : t < xn
        · have htx' : (t : Int) < (xn : Int) := by omega
          have hr40 : r ≤ 40 := by have := hqr.out; omega
          have hgl := (howni.out.lt g2 rfl).2
          have hgb := (howni.out.lt g2 rfl).1
          have hX := howni.out.alloc (.cells #[.int .i64 h, .int .i64 0, .int .i64 0] 36)
          have hbX := hbi.alloc hszi (.cells #[.int .i64 h, .int .i64 0, .int .i64 0] 36)
          have cX : (wr.alloc (.cells #[.int .i64 h, .int .i64 0, .int .i64 0] 36)).cell? ⟨b', off + j, none⟩ = _ := (hbX.cell (p := ⟨b', off + j, none⟩) hb').trans HC.out
          have hblt : b' < wr.heap.size := Nat.lt_of_lt_of_le hb' hszi
          by_cases hf : t = 0 ∧ 1 < (xn : Int)
          · obtain ⟨ht0, hx1⟩ := hf
            subst ht0
            by_cases h2 : xn = 2
            · have hx2 : xn = 2 := by omega
              subst hx2
              have HP := Lib.hid (pen_both ((2 : Nat) : Int) (by omega))
              have hY := howni.out.alloc (.cells #[.int .i64 h, .int .i64 0, .int .i64 250] 36)
              have hbS := hbi.alloc hszi (.cells #[.int .i64 h, .int .i64 0, .int .i64 250] 36)
              have HO := Lib.hid (hY.alloc (.cells #[.int .i64 h, .int .i64 0, .int .i64 250] 36))
              have HB2 := Lib.hid (Blk.new_at (wr.alloc (.cells #[.int .i64 h, .int .i64 0, .int .i64 250] 36)) 36 #[.int .i64 h, .int .i64 0, .int .i64 250] (wr.heap.size + 1) (by simp))
              have HSI := Lib.hid (show w.heap.size ≤ ((wr.alloc (.cells #[.int .i64 h, .int .i64 0, .int .i64 250] 36)).alloc (.cells #[.int .i64 h, .int .i64 0, .int .i64 250] 36)).heap.size by simp; omega)
              clear hX hY
              go_wp2_with (at_builtin; (refine wpList_append_one _ rfl _ _ 33 rfl w.heap.size 36 j0 _ 3 24 Try.underlying33 ji jz0 jz1 jz2 rfl (by omega) (some ⟨g2, 0, none⟩) r d2 ((textL h (xs.take j) ++ parL h ((2 : Nat) : Int) 0).flatMap lnl) rfl HO.out (wr.heap.size + 1) (lnl ⟨h, 0, 250⟩) rfl rfl HB2.out (lnl_one _) (by omega) (by omega) HSI.out ?_); intro g' d' w4 hown4 hgr4)
              have HO4 := Lib.hid hown4
              have hb4 : Below w.heap.size w w4 := (hbS.alloc (by simp; omega) _).grown hgr4 (by simp; omega) (fun k hk => by have := (HO.out.lt k hk).1; omega)
              clear hown4
              go_wp2_with fail
              go_roundg (2 - (0 + 1))
              case measure => have := HKT.out; omega
              case rel =>
                refine ⟨0 + 1, r + 1, g', d', by omega, rfl, by go_num, by go_num, (by have := hqr.out; show _ = _; omega), ?_, hb4⟩
                show World.ownsRow _ _ _ _ _ _ _
                rw [parL_snoc, HP.out, ← List.append_assoc, flat_snoc]; exact HO4.out
            · have hlb : ((0 : Int) == (xn : Int) - 2) = false := by simp; omega
              have hd1 : decide (1 < (xn : Int)) = true := decide_eq_true (by omega)
              have HP := Lib.hid (pen_first (xn : Int) (by omega) (by omega))
              have hY := howni.out.alloc (.cells #[.int .i64 h, .int .i64 0, .int .i64 100] 36)
              have hbS := hbi.alloc hszi (.cells #[.int .i64 h, .int .i64 0, .int .i64 100] 36)
              have HO := Lib.hid (hY.alloc (.cells #[.int .i64 h, .int .i64 0, .int .i64 100] 36))
              have HB2 := Lib.hid (Blk.new_at (wr.alloc (.cells #[.int .i64 h, .int .i64 0, .int .i64 100] 36)) 36 #[.int .i64 h, .int .i64 0, .int .i64 100] (wr.heap.size + 1) (by simp))
              have HSI := Lib.hid (show w.heap.size ≤ ((wr.alloc (.cells #[.int .i64 h, .int .i64 0, .int .i64 100] 36)).alloc (.cells #[.int .i64 h, .int .i64 0, .int .i64 100] 36)).heap.size by simp; omega)
              clear hX hY
              go_wp2_with (at_builtin; (refine wpList_append_one _ rfl _ _ 33 rfl w.heap.size 36 j0 _ 3 24 Try.underlying33 ji jz0 jz1 jz2 rfl (by omega) (some ⟨g2, 0, none⟩) r d2 ((textL h (xs.take j) ++ parL h (xn : Int) 0).flatMap lnl) rfl HO.out (wr.heap.size + 1) (lnl ⟨h, 0, 100⟩) rfl rfl HB2.out (lnl_one _) (by omega) (by omega) HSI.out ?_); intro g' d' w4 hown4 hgr4)
              have HO4 := Lib.hid hown4
              have hb4 : Below w.heap.size w w4 := (hbS.alloc (by simp; omega) _).grown hgr4 (by simp; omega) (fun k hk => by have := (HO.out.lt k hk).1; omega)
              clear hown4
              go_wp2_with fail
              go_roundg (xn - (0 + 1))
              case measure => have := HKT.out; omega
              case rel =>
                refine ⟨0 + 1, r + 1, g', d', by omega, rfl, by go_num, by go_num, (by have := hqr.out; show _ = _; omega), ?_, hb4⟩
                show World.ownsRow _ _ _ _ _ _ _
                rw [parL_snoc, HP.out, ← List.append_assoc, flat_snoc]; exact HO4.out
          · by_cases hl : (t : Int) = (xn : Int) - 2
            · have hp := pen_last (xn : Int) t (by omega) hl
              have HP := Lib.hid hp
              have HL := Lib.hid hl
              have hd : ((t : Int) == 0) = false := by simp; omega
              have hlb : ((t : Int) == (xn : Int) - 2) = true := by simp; omega
              have hY := howni.out.alloc (.cells #[.int .i64 h, .int .i64 0, .int .i64 150] 36)
              have hbS := hbi.alloc hszi (.cells #[.int .i64 h, .int .i64 0, .int .i64 150] 36)
              have HO := Lib.hid (hY.alloc (.cells #[.int .i64 h, .int .i64 0, .int .i64 150] 36))
              have HB2 := Lib.hid (Blk.new_at (wr.alloc (.cells #[.int .i64 h, .int .i64 0, .int .i64 150] 36)) 36 #[.int .i64 h, .int .i64 0, .int .i64 150] (wr.heap.size + 1) (by simp))
              have HSI := Lib.hid (show w.heap.size ≤ ((wr.alloc (.cells #[.int .i64 h, .int .i64 0, .int .i64 150] 36)).alloc (.cells #[.int .i64 h, .int .i64 0, .int .i64 150] 36)).heap.size by simp; omega)
              clear hf hl hp hX hY
              go_wp2_with (at_builtin; (refine wpList_append_one _ rfl _ _ 33 rfl w.heap.size 36 j0 _ 3 24 Try.underlying33 ji jz0 jz1 jz2 rfl (by omega) (some ⟨g2, 0, none⟩) r d2 ((textL h (xs.take j) ++ parL h (xn : Int) t).flatMap lnl) rfl HO.out (wr.heap.size + 1) (lnl ⟨h, 0, 150⟩) rfl rfl HB2.out (lnl_one _) (by omega) (by omega) HSI.out ?_); intro g' d' w4 hown4 hgr4)
              have HO4 := Lib.hid hown4
              have hb4 : Below w.heap.size w w4 := (hbS.alloc (by simp; omega) _).grown hgr4 (by simp; omega) (fun k hk => by have := (HO.out.lt k hk).1; omega)
              clear hown4
              go_wp2_with fail
              go_roundg (xn - (t + 1))
              case measure => have := HKT.out; omega
              case rel =>
                refine ⟨t + 1, r + 1, g', d', by omega, rfl, (by have := HL.out; go_num), by go_num, (by have := hqr.out; show _ = _; omega), ?_, hb4⟩
                show World.ownsRow _ _ _ _ _ _ _
                rw [parL_snoc, HP.out, ← List.append_assoc, flat_snoc]; exact HO4.out
            · have hp := pen_none (xn : Int) t hf hl
              have HP := Lib.hid hp
              have hlb : ((t : Int) == (xn : Int) - 2) = false := by simp; omega
              have HO := Lib.hid (hX.alloc (.cells #[.int .i64 h, .int .i64 0, .int .i64 0] 36))
              have HB2 := Lib.hid (Blk.new_at (wr.alloc (.cells #[.int .i64 h, .int .i64 0, .int .i64 0] 36)) 36 #[.int .i64 h, .int .i64 0, .int .i64 0] (wr.heap.size + 1) (by simp))
              have HSI := Lib.hid (show w.heap.size ≤ ((wr.alloc (.cells #[.int .i64 h, .int .i64 0, .int .i64 0] 36)).alloc (.cells #[.int .i64 h, .int .i64 0, .int .i64 0] 36)).heap.size by simp; omega)
              have hdr : (decide (1 < (xn : Int)) = false ∧ t = 0) ∨ ((t : Int) == 0) = false := by
                by_cases h0 : t = 0
                · left; exact ⟨decide_eq_false (by omega), h0⟩
                · right; simp; omega
              clear hf hl hp hX
              rcases hdr with ⟨hd1, hd0⟩ | hd
              · subst hd0
                have hlb' : ((0 : Int) == (xn : Int) - 2) = false := hlb
                clear hlb
                go_wp2_with (at_builtin; (refine wpList_append_one _ rfl _ _ 33 rfl w.heap.size 36 j0 _ 3 24 Try.underlying33 ji jz0 jz1 jz2 rfl (by omega) (some ⟨g2, 0, none⟩) r d2 ((textL h (xs.take j) ++ parL h (xn : Int) 0).flatMap lnl) rfl HO.out (wr.heap.size + 1) (lnl ⟨h, 0, 0⟩) rfl rfl HB2.out (lnl_one _) (by omega) (by omega) HSI.out ?_); intro g' d' w4 hown4 hgr4)
                have HO4 := Lib.hid hown4
                have hb4 : Below w.heap.size w w4 := (hbX.alloc (by simp; omega) _).grown hgr4 (by simp; omega) (fun k hk => by have := (HO.out.lt k hk).1; omega)
                clear hown4
                go_wp2_with fail
                go_roundg (xn - (0 + 1))
                case measure => have := HKT.out; omega
                case rel =>
                  refine ⟨0 + 1, r + 1, g', d', by omega, rfl, by go_num, by go_num, (by have := hqr.out; show _ = _; omega), ?_, hb4⟩
                  show World.ownsRow _ _ _ _ _ _ _
                  rw [parL_snoc, HP.out, ← List.append_assoc, flat_snoc]; exact HO4.out
              · go_wp2_with (at_builtin; (refine wpList_append_one _ rfl _ _ 33 rfl w.heap.size 36 j0 _ 3 24 Try.underlying33 ji jz0 jz1 jz2 rfl (by omega) (some ⟨g2, 0, none⟩) r d2 ((textL h (xs.take j) ++ parL h (xn : Int) t).flatMap lnl) rfl HO.out (wr.heap.size + 1) (lnl ⟨h, 0, 0⟩) rfl rfl HB2.out (lnl_one _) (by omega) (by omega) HSI.out ?_); intro g' d' w4 hown4 hgr4)
                have HO4 := Lib.hid hown4
                have hb4 : Below w.heap.size w w4 := (hbX.alloc (by simp; omega) _).grown hgr4 (by simp; omega) (fun k hk => by have := (HO.out.lt k hk).1; omega)
                clear hown4
                go_wp2_with fail
                go_roundg (xn - (t + 1))
                case measure => have := HKT.out; omega
                case rel =>
                  refine ⟨t + 1, r + 1, g', d', by omega, rfl, by go_num, by go_num, (by have := hqr.out; show _ = _; omega), ?_, hb4⟩
                  show World.ownsRow _ _ _ _ _ _ _
                  rw [parL_snoc, HP.out, ← List.append_assoc, flat_snoc]; exact HO4.out
        · have hrq : r = q + xn := by have := hqr.out; omega
          have etx : t = xn := by omega
          subst hrq etx
          go_wp2_with fail
          go_roundg (n - (j + 1))
          case measure => have := HK.out; omega
          case rel =>
            exact ⟨j + 1, q + t, g2, d2, by omega, rfl, by go_num, rfl, HNX.out, by omega, (by show World.ownsRow _ _ _ _ _ _ _; rw [HNL.out]; exact howni.out), hbi⟩
    · have etk : xs.take j = xs := List.take_of_length_le (by rw [HN.out]; omega)
      have el : (textL h xs).length = q := by
        have h1 := textL_len h (sizes_ok HOK.out).1
        have h2 := hsum.out
        rw [etk] at h2
        omega
      have EL := Lib.hid el
      have HOF := Lib.hid hown.out
      have ETK := Lib.hid etk
      clear etk el
      go_wp2_with fail
      go_ret
      refine ⟨some ⟨g, 0, none⟩, d, by rw [EL.out]; rfl, ?_, hbel⟩
      have := HOF.out
      rw [ETK.out] at this
      rw [EL.out]; exact this
end Go.Proofs.Ytlgbeoghjjjlmaa
