/- CheckFigures of the reference returns what the plain function says. Conditions: the slices read as lists; the slice of spaces is not nil. -/
import Derived.Test.YtlgbeoghjjjlmaaFigCheck
namespace Go.Proofs.Ytlgbeoghjjjlmaa
open Go.RowKit

set_option maxHeartbeats 4000000 in
theorem checkF_s (A : Option Addr) (n cap bs os m cs : Nat) (B : Option Addr) (k ck : Nat) (xs : List Fg) (ss ps : List Int) (w : World) (hn : xs.length = n) (hm : n ≤ maxLen) (hr : Row w w.heap.size 2 A n (fgc xs))
    (hs : ss.length = m) (hms : m ≤ 1048576) (hrs : Row w w.heap.size 1 (some ⟨bs, os, none⟩) m (inc ss)) (hp : ps.length = k) (hmp : k ≤ maxLen) (hrp : Row w w.heap.size 1 B k (inc ps)) :
    Calls Try.prog 36 #[.slice A n cap, .slice (some ⟨bs, os, none⟩) m cs, .slice B k ck] w fun e w' => e = .returned (.bool (checkF xs ss ps)) ∧ Below w.heap.size w w' := by
  obtain ⟨j0, ji, jz0, jz1, jz2⟩ := info_parts int_info
  have hmx : m ≤ maxLen := by unfold maxLen; omega
  have hmp' := hmp
  unfold maxLen at hmp'
  have HR := Lib.hid hr
  have HRS := Lib.hid hrs
  have HRP := Lib.hid hrp
  clear hr hrs hrp
  rcases h1 : figsOk xs with _ | _
  · have E := Lib.hid (check_b1 (ss := ss) (ps := ps) h1)
    go_enter Try.func36, Try.ntmps36
    go_wp2_with fail
    ((with_reducible refine (validFloats_s _ _ _ xs _ hn hm ?_).mono ?_); (exact HR.out); rintro e w1 ⟨rfl, hb1⟩)
    rw [h1]
    go_wp2
    go_ret
    exact ⟨ret_bool E.out.symm, hb1⟩
  rcases h2 : spaceOk ss with _ | _
  · have E := Lib.hid (check_b2 (xs := xs) (ps := ps) h2)
    go_enter Try.func36, Try.ntmps36
    go_wp2_with fail
    ((with_reducible refine (validFloats_s _ _ _ xs _ hn hm ?_).mono ?_); (exact HR.out); rintro e w1 ⟨rfl, hb1⟩)
    rw [h1]
    go_wp2_with fail
    ((with_reducible refine (validSpace_s _ _ _ ss _ hs hmx ?_).mono ?_); (exact HRS.out.then_ hb1); rintro e w2 ⟨rfl, hb2⟩)
    rw [h2]
    go_wp2
    go_ret
    exact ⟨ret_bool E.out.symm, below_then (Nat.le_refl _) hb1 hb2⟩
  have hl := figs_len h1
  rw [hn] at hl
  by_cases h3 : k = n
  case neg =>
    have E := Lib.hid (check_b3 (ss := ss) hn hp h3)
    have hb : ((k : Int) != (n : Int)) = true := by simp; omega
    have H1 := Lib.hid h1
    have H2 := Lib.hid h2
    clear h1 h2
    go_enter Try.func36, Try.ntmps36
    go_wp2_with fail
    ((with_reducible refine (validFloats_s _ _ _ xs _ hn hm ?_).mono ?_); (exact HR.out); rintro e w1 ⟨rfl, hb1⟩)
    rw [H1.out]
    go_wp2_with fail
    ((with_reducible refine (validSpace_s _ _ _ ss _ hs hmx ?_).mono ?_); (exact HRS.out.then_ hb1); rintro e w2 ⟨rfl, hb2⟩)
    rw [H2.out]
    go_wp2
    go_ret
    exact ⟨ret_bool E.out.symm, below_then (Nat.le_refl _) hb1 hb2⟩
  subst h3
  have hm12 := (space_iff h2).1
  rw [hs] at hm12
  have HOK := Lib.hid h1
  have HSO := Lib.hid h2
  have HN := Lib.hid hn
  have HS := Lib.hid hs
  have HP := Lib.hid hp
  clear h1 h2 hn hs hp
  go_enter Try.func36, Try.ntmps36
  go_wp2_with fail
  ((with_reducible refine (validFloats_s _ _ _ xs _ HN.out hm ?_).mono ?_); (exact HR.out); rintro e w1 ⟨rfl, hb1⟩)
  rw [HOK.out]
  go_wp2_with fail
  ((with_reducible refine (validSpace_s _ _ _ ss _ HS.out hmx ?_).mono ?_); (exact HRS.out.then_ hb1); rintro e w2 ⟨rfl, hb2⟩)
  rw [HSO.out]
  have hB2 := below_then (Nat.le_refl _) hb1 hb2
  have hz2 := hB2.size
  have HC := Lib.hid (row_cells HS.out (((HRS.out.below hB2).more hB2.size).alloc' (.cells #[] 3)))
  have HL := Lib.hid (show (inl ss).length = m * 1 by rw [inl_len, HS.out]; omega)
  have HE := Lib.hid (owns_nil _ w2.heap.size 3 1 0 _ _ (Blk.new w2 3 #[]) (Nat.le_refl _) (by unfold maxLen; omega) rfl)
  have HSS := Lib.hid (show w2.heap.size ≤ (w2.alloc (.cells #[] 3)).heap.size by simp)
  go_wp2_with (at_builtin; (refine wpList_append_row _ rfl _ _ 22 rfl w2.heap.size 3 j0 _ 1 8 Try.underlying22 ji jz0 jz1 jz2 rfl (by omega) w2.heap.size 0 0 [] rfl HE.out bs os m cs (inl ss) rfl HL.out HC.out (inl_one _) (by omega) (by omega) HSS.out ?_); intro g c w3 hown6 hgr6)
  have h6 := hown6
  rw [Nat.zero_add, List.nil_append] at h6
  have hb3 : Below w2.heap.size w2 w3 := ((Below.refl _ _).alloc (Nat.le_refl _) _).grown hgr6 (by simp) (fun k hk => by injection hk; omega)
  have HO3 := Lib.hid (show OwnI w3 w2.heap.size (some ⟨g, 0, none⟩) m c ss from h6)
  have hB3 := below_then (Nat.le_refl _) hB2 hb3
  have hz3 := hB3.size
  have hgb := (HO3.out.lt g rfl).1
  clear hown6 hgr6 h6
  go_wp2_with fail
  go_loopg [8] k (fun kk iv wr => ∃ (j : Nat) (l : List Int) (last : Int), j ≤ k ∧ kk = k - j ∧ iv = .int .i64 j ∧ Hid (cfF xs ps ss j = some (l, last)) ∧ Hid (OwnI wr w2.heap.size (some ⟨g, 0, none⟩) m c l) ∧ Below w2.heap.size w2 wr)
  case atStart => exact ⟨0, ss, 0, Nat.zero_le _, rfl, by go_num, rfl, HO3.out, hb3⟩
  case round =>
    obtain ⟨j, l, last, hj, hk, rfl, hcf, hown, hbel⟩ := hrel
    have HK := Lib.hid hk; clear hk
    have hsz := hbel.size
    have hB := below_then (Nat.le_refl _) hB2 hbel
    obtain ⟨hll, hlb, l0, l1, hlast⟩ := cf_inv (ps := ps) HOK.out HN.out HS.out HSO.out j hj l last hcf.out
    have HLL := Lib.hid hll
    have HLB := Lib.hid hlb
    have HLAST := Lib.hid hlast
    clear hll hlb hlast
    by_cases hlt : j < k
    · obtain ⟨b1, o1, hA1, hbb1, hc1⟩ := HR.out (by omega)
      have c0 : wr.cell? ⟨b1, o1 + j * 2, none⟩ = _ := (hB.cell (p := ⟨b1, o1 + j * 2, none⟩) hbb1).trans (hc1 j 0 hlt (by omega))
      have c1 : wr.cell? ⟨b1, o1 + j * 2 + 1, none⟩ = _ := (hB.cell (p := ⟨b1, o1 + j * 2 + 1, none⟩) hbb1).trans (hc1 j 1 hlt (by omega))
      subst hA1
      obtain ⟨b2, o2, hA2, hbb2, hc2⟩ := HRP.out.at1 (by omega)
      have d0 : wr.cell? ⟨b2, o2 + j, none⟩ = _ := (hB.cell (p := ⟨b2, o2 + j, none⟩) hbb2).trans (hc2 j hlt)
      have d1 : wr.cell? ⟨b2, o2 + (j - 1), none⟩ = _ := (hB.cell (p := ⟨b2, o2 + (j - 1), none⟩) hbb2).trans (hc2 (j - 1) (by omega))
      subst hA2
      obtain ⟨x, hx⟩ : ∃ x, xs.getD j default = x := ⟨_, rfl⟩
      obtain ⟨p, hpp⟩ : ∃ p, ps.getD j default = p := ⟨_, rfl⟩
      simp only [fgc, hx] at c0 c1
      simp only [inc, hpp] at d0
      simp only [inc] at d1
      obtain ⟨⟨a1, a2⟩, q1, q2⟩ := fig_at HOK.out HN.out hlt hx
      have hnx := cf_next HS.out hx hpp hcf.out
      have hltk : (j : Int) < (k : Int) := by omega
      have hgl := (hown.out.lt g rfl).2
      clear hc1 hc2 hx hpp
      rcases hin : inR p x.b ((m : Int) - 1) with _ | _
      · have E := Lib.hid (check_no (ss := ss) (ps := ps) HN.out (show j + 1 ≤ k by omega) (by rw [hnx, if_neg (by have := inR_no.1 hin; omega)]))
        have HIN := Lib.hid hin
        clear hin hnx d1
        go_wp2_with fail
        ((with_reducible refine (inRange_any _ _ _ _).mono ?_); rintro e w' ⟨rfl, rfl⟩)
        rw [HIN.out]
        go_wp2_with fail
        go_ret
        exact ⟨ret_bool E.out.symm, by (repeat' (first | (with_reducible exact Below.refl _ _) | (with_reducible assumption) | (with_reducible refine Below.alloc ?_ ?_ _) | (with_reducible refine Below.drew ?_) | (with_reducible refine below_drewN ?_ _) | (with_reducible refine Below.setCell ?_ ?_ _) | (with_reducible refine below_then ?_ ?_ (by with_reducible assumption)) | (with_reducible exact Nat.le_refl _) | go_size | (simp only [*]; done)))⟩
      obtain ⟨i1, i2⟩ := inR_iff.1 hin
      obtain ⟨u, rfl⟩ := Int.eq_ofNat_of_zero_le (show 0 ≤ p by omega)
      have hum : u < m := by omega
      have hum' : (u : Int) < (m : Int) := by omega
      obtain ⟨y, hy⟩ : ∃ y, l.getD u default = y := ⟨_, rfl⟩
      rw [Int.toNat_natCast, hy] at hnx
      obtain ⟨y0, y1⟩ := HLB.out y (mem_of_getD HLL.out hum hy)
      have o0 := hown.out.cellI hum
      rw [hy] at o0
      have fX := hown.out.frozenAt u
      have HIN := Lib.hid hin
      have w2' : IntKind.i64.wrap (y - x.a) = y - x.a := IntWalk.i64_in _ (by omega)
      have hne1 : ¬ b1 = g := by omega
      have hne1' : ¬ g = b1 := by omega
      clear hin hy
      by_cases hpl : (u : Int) < last
      · have hj0 : 0 < j := by
          rcases HLAST.out with ⟨_, h⟩ | ⟨h, _⟩
          · omega
          · exact h
        have hlast : ps.getD (j - 1) default = last := by
          rcases HLAST.out with ⟨h, _⟩ | ⟨_, h⟩
          · omega
          · exact h.symm
        rw [hlast] at d1
        have E := Lib.hid (check_no (ss := ss) (ps := ps) HN.out (show j + 1 ≤ k by omega) (by rw [hnx, if_neg (by omega)]))
        have hj0' : (0 : Int) < (j : Int) := by omega
        have hjc : (j : Int) - 1 = ((j - 1 : Nat) : Int) := by omega
        have hjl : ((j - 1 : Nat) : Int) < (k : Int) := by omega
        clear hnx hlast
        obtain ⟨q, hq⟩ : ∃ q, j - 1 = q := ⟨_, rfl⟩
        rw [hq] at hjc hjl d1
        go_wp2_with fail
        ((with_reducible refine (inRange_any _ _ _ _).mono ?_); rintro e w' ⟨rfl, rfl⟩)
        rw [HIN.out]
        go_wp2_with fail
        go_ret
        exact ⟨ret_bool E.out.symm, by (repeat' (first | (with_reducible exact Below.refl _ _) | (with_reducible assumption) | (with_reducible refine Below.alloc ?_ ?_ _) | (with_reducible refine Below.drew ?_) | (with_reducible refine below_drewN ?_ _) | (with_reducible refine Below.setCell ?_ ?_ _) | (with_reducible refine below_then ?_ ?_ (by with_reducible assumption)) | (with_reducible exact Nat.le_refl _) | go_size | (simp only [*]; done)))⟩
      by_cases hj0 : 0 < j
      · have hlast : ps.getD (j - 1) default = last := by
          rcases HLAST.out with ⟨h, _⟩ | ⟨_, h⟩
          · omega
          · exact h.symm
        rw [hlast] at d1
        have hj0' : (0 : Int) < (j : Int) := by omega
        have hjc : (j : Int) - 1 = ((j - 1 : Nat) : Int) := by omega
        have hjl : ((j - 1 : Nat) : Int) < (k : Int) := by omega
        have hpl' : last ≤ (u : Int) := by omega
        clear hlast hpl
        obtain ⟨q, hq⟩ : ∃ q, j - 1 = q := ⟨_, rfl⟩
        rw [hq] at hjc hjl d1
        by_cases hya : y < x.a
        · have E := Lib.hid (check_no (ss := ss) (ps := ps) HN.out (show j + 1 ≤ k by omega) (by rw [hnx, if_neg (by omega)]))
          have hneg : y - x.a < 0 := by omega
          clear hnx
          go_wp2_with fail
          ((with_reducible refine (inRange_any _ _ _ _).mono ?_); rintro e w' ⟨rfl, rfl⟩)
          rw [HIN.out]
          go_wp2_with fail
          go_region
          all_goals
            go_wp2_with fail
            go_ret
            exact ⟨ret_bool E.out.symm, by (repeat' (first | (with_reducible exact Below.refl _ _) | (with_reducible assumption) | (with_reducible refine Below.alloc ?_ ?_ _) | (with_reducible refine Below.drew ?_) | (with_reducible refine below_drewN ?_ _) | (with_reducible refine Below.setCell ?_ ?_ _) | (with_reducible refine below_then ?_ ?_ (by with_reducible assumption)) | (with_reducible exact Nat.le_refl _) | go_size | (simp only [*]; done)))⟩
        · rw [if_pos (by omega)] at hnx
          have HNX := Lib.hid hnx
          have hneg : 0 ≤ y - x.a := by omega
          clear hnx hya
          go_wp2_with fail
          ((with_reducible refine (inRange_any _ _ _ _).mono ?_); rintro e w' ⟨rfl, rfl⟩)
          rw [HIN.out]
          go_wp2_with fail
          go_region
          all_goals
            go_wp2_with fail
            go_roundg (k - (j + 1))
            case measure => have := HK.out; omega
            case rel =>
              refine ⟨j + 1, l.set u (y - x.a), (u : Int), by omega, rfl, by go_num, HNX.out, ?_, by (repeat' (first | (with_reducible exact Below.refl _ _) | (with_reducible assumption) | (with_reducible refine Below.alloc ?_ ?_ _) | (with_reducible refine Below.drew ?_) | (with_reducible refine below_drewN ?_ _) | (with_reducible refine Below.setCell ?_ ?_ _) | (with_reducible refine below_then ?_ ?_ (by with_reducible assumption)) | (with_reducible exact Nat.le_refl _) | go_size | (simp only [*]; done)))⟩
              exact OwnI.stored (j := u) (xs := l) (by first | exact hown.out | exact OwnI.drew hown.out) (y - x.a)
      · obtain rfl : j = 0 := by omega
        simp only [Nat.zero_mul, Nat.add_zero] at c0 c1 d0
        have hl00 : last ≤ (u : Int) := by omega
        clear d1
        by_cases hya : y < x.a
        · have E := Lib.hid (check_no (ss := ss) (ps := ps) HN.out (show 0 + 1 ≤ k by omega) (by rw [hnx, if_neg (by omega)]))
          have hneg : y - x.a < 0 := by omega
          clear hnx
          go_wp2_with fail
          ((with_reducible refine (inRange_any _ _ _ _).mono ?_); rintro e w' ⟨rfl, rfl⟩)
          rw [HIN.out]
          go_wp2_with fail
          go_region
          all_goals
            go_wp2_with fail
            go_ret
            exact ⟨ret_bool E.out.symm, by (repeat' (first | (with_reducible exact Below.refl _ _) | (with_reducible assumption) | (with_reducible refine Below.alloc ?_ ?_ _) | (with_reducible refine Below.drew ?_) | (with_reducible refine below_drewN ?_ _) | (with_reducible refine Below.setCell ?_ ?_ _) | (with_reducible refine below_then ?_ ?_ (by with_reducible assumption)) | (with_reducible exact Nat.le_refl _) | go_size | (simp only [*]; done)))⟩
        · rw [if_pos (by omega)] at hnx
          have HNX := Lib.hid hnx
          have hneg : 0 ≤ y - x.a := by omega
          clear hnx hya
          go_wp2_with fail
          ((with_reducible refine (inRange_any _ _ _ _).mono ?_); rintro e w' ⟨rfl, rfl⟩)
          rw [HIN.out]
          go_wp2_with fail
          go_region
          all_goals
            go_wp2_with fail
            go_roundg (k - (0 + 1))
            case measure => have := HK.out; omega
            case rel =>
              refine ⟨0 + 1, l.set u (y - x.a), (u : Int), by omega, rfl, by go_num, HNX.out, ?_, by (repeat' (first | (with_reducible exact Below.refl _ _) | (with_reducible assumption) | (with_reducible refine Below.alloc ?_ ?_ _) | (with_reducible refine Below.drew ?_) | (with_reducible refine below_drewN ?_ _) | (with_reducible refine Below.setCell ?_ ?_ _) | (with_reducible refine below_then ?_ ?_ (by with_reducible assumption)) | (with_reducible exact Nat.le_refl _) | go_size | (simp only [*]; done)))⟩
              exact OwnI.stored (j := u) (xs := l) (by first | exact hown.out | exact OwnI.drew hown.out) (y - x.a)
    · have E := Lib.hid (check_yes HOK.out HSO.out HN.out HP.out (by have := hcf.out; rwa [show j = k by omega] at this))
      go_wp2_with fail
      go_ret
      exact ⟨ret_bool E.out.symm, hB⟩
end Go.Proofs.Ytlgbeoghjjjlmaa
