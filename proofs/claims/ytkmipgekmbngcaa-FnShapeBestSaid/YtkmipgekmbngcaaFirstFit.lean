/- FirstFit of the reference ends and returns at most as many breaks as there are items. Conditions: the slice reads as the list. -/
import Derived.Test.YtkmipgekmbngcaaCostS
import Derived.Test.YtkmipgekmbngcaaMSb1
import Derived.Test.YtkmipgekmbngcaaMSb6
namespace Go.Proofs.Ytkmipgekmbngcaa
open Go.RowKit

theorem forced_brk {xs : List It} {t : Nat} (h : forced (xs.getD t default) = true) : brk xs t = true := by
  simp only [forced, Bool.and_eq_true, beq_iff_eq] at h
  rw [brk, kd, if_pos h.1, h.2]
  rfl
theorem ln_a {xs : List It} {n a t : Nat} {F : Int} (hn : xs.length = n) (hF : F = (a : Int) - 1) (hat : a ≤ t) (ht : t < n) (hb : brk xs t = true) (hp : 0 < a → brk xs (a - 1) = true) : lnOk xs F (t : Int) = noF xs a t := by
  rcases a with _ | a
  · obtain rfl : F = -1 := by omega
    exact ln_first hn ht hb
  · obtain rfl : F = (a : Int) := by omega
    exact ln_mid hn ht (by omega) hb (by have := hp (by omega); rwa [Nat.add_sub_cancel] at this)
/-- Behind each break there is a line. -/
theorem ln_ex {xs : List It} {n a : Nat} {F : Int} (hok : itemsOk xs = true) (hn : xs.length = n) (ha : a < n) (hF : F = (a : Int) - 1) (hp : 0 < a → brk xs (a - 1) = true) : ∃ t, a ≤ t ∧ t < n ∧ lnOk xs F (t : Int) = true := by
  have key : ∀ k s, a ≤ s → s + k = n - 1 → (∀ i, a ≤ i → i < s → forced (xs.getD i default) = false) → ∃ t, a ≤ t ∧ t < n ∧ lnOk xs F (t : Int) = true := by
    intro k
    induction k with
    | zero =>
      intro s hs hk hall
      have h1 := itemsOk_last hok hn
      rw [show n - 1 = s by omega] at h1
      exact ⟨s, hs, by omega, by rw [ln_a hn hF hs (by omega) (forced_brk h1) hp]; exact (noF_iff hn (by omega)).2 hall⟩
    | succ k ih =>
      intro s hs hk hall
      rcases hf : forced (xs.getD s default) with _ | _
      · refine ih (s + 1) (by omega) (by omega) fun i h1 h2 => ?_
        rcases Nat.lt_or_ge i s with h3 | h3
        · exact hall i h1 h3
        · obtain rfl : i = s := by omega
          exact hf
      · exact ⟨s, hs, by omega, by rw [ln_a hn hF hs (by omega) (forced_brk hf) hp]; exact (noF_iff hn (by omega)).2 hall⟩
  exact key (n - 1 - a) a (Nat.le_refl _) (by omega) (fun i h1 h2 => by omega)

/-- The best break so far: none, or one behind the beginning of the line. -/
def FF (xs : List It) (F : Int) (a t n : Nat) (B : Int) : Prop := (B = -1 ∧ ∀ i : Nat, a ≤ i → i < t → lnOk xs F (i : Int) = false) ∨ ∃ b : Nat, B = (b : Int) ∧ a ≤ b ∧ b < n ∧ brk xs b = true
theorem FF.skip {xs : List It} {F B : Int} {a t n : Nat} (h : FF xs F a t n B) (hl : lnOk xs F (t : Int) = false) : FF xs F a (t + 1) n B := by
  rcases h with ⟨h1, h2⟩ | h
  · refine .inl ⟨h1, fun i h3 h4 => ?_⟩
    rcases Nat.lt_or_ge i t with h5 | h5
    · exact h2 i h3 h5
    · obtain rfl : i = t := by omega
      exact hl
  · exact .inr h
theorem FF.set {xs : List It} {F : Int} {a t n : Nat} (ha : a ≤ t) (ht : t < n) (hb : brk xs t = true) (s : Nat) : FF xs F a s n (t : Int) := .inr ⟨t, rfl, ha, ht, hb⟩
theorem FF.same {xs : List It} {F : Int} {a t n b : Nat} (ha : a ≤ b) (hb : b < n) (h : brk xs b = true) : FF xs F a t n (b : Int) := .inr ⟨b, rfl, ha, hb, h⟩

/-- What a call leaves that returns some numbers of its own, at most n. -/
def SomeInts (w : World) (n : Nat) (e : Ending) (w' : World) : Prop := ∃ bs : List Int, bs.length ≤ n ∧ IntsOut w bs e w'

set_option maxRecDepth 100000 in
set_option maxHeartbeats 4000000 in
theorem firstFit_s (A : Option Addr) (n cap : Nat) (d : Int) (xs : List It) (w : World) (hn : xs.length = n) (hm : n ≤ maxLen) (hr : Row w w.heap.size 6 A n (itc xs)) :
    Calls Try.prog 77 #[.slice A n cap, .int .i64 d] w (SomeInts w n) := by
  have HN := Lib.hid hn
  have HR := Lib.hid (hr.alloc' (.cells #[] 3))
  obtain ⟨i0, hi, hz0, hz1, hz2⟩ := info_parts int_info
  rcases hok : itemsOk xs with _ | _
  · have HOK := Lib.hid hok
    clear hok hn
    go_enter Try.func77, Try.ntmps77
    go_wp2_with fail
    ((with_reducible refine (validItems_s _ _ _ xs _ HN.out hm ?_).mono ?_); (exact HR.out); rintro e w1 ⟨rfl, hb1⟩)
    rw [HOK.out]
    have hB1 : Below w.heap.size w w1 := below_then (Nat.le_refl _) (by (repeat' (first | (with_reducible exact Below.refl _ _) | (with_reducible assumption) | (with_reducible refine Below.alloc ?_ ?_ _) | (with_reducible refine Below.drew ?_) | (with_reducible refine below_drewN ?_ _) | (with_reducible refine Below.setCell ?_ ?_ _) | (with_reducible refine below_then ?_ ?_ (by with_reducible assumption)) | (with_reducible exact Nat.le_refl _) | go_size | (simp only [*]; done)))) hb1
    go_wp2_with fail
    go_ret
    exact ⟨[], Nat.zero_le _, ints_of rfl rfl (ownI_none _ _) hB1⟩
  rcases hwo : widthOk d with _ | _
  · have HOK := Lib.hid hok
    have HW := Lib.hid hwo
    clear hok hn hwo
    go_enter Try.func77, Try.ntmps77
    go_wp2_with fail
    ((with_reducible refine (validItems_s _ _ _ xs _ HN.out hm ?_).mono ?_); (exact HR.out); rintro e w1 ⟨rfl, hb1⟩)
    rw [HOK.out]
    have hB1 : Below w.heap.size w w1 := below_then (Nat.le_refl _) (by (repeat' (first | (with_reducible exact Below.refl _ _) | (with_reducible assumption) | (with_reducible refine Below.alloc ?_ ?_ _) | (with_reducible refine Below.drew ?_) | (with_reducible refine below_drewN ?_ _) | (with_reducible refine Below.setCell ?_ ?_ _) | (with_reducible refine below_then ?_ ?_ (by with_reducible assumption)) | (with_reducible exact Nat.le_refl _) | go_size | (simp only [*]; done)))) hb1
    go_wp2_with fail
    ((with_reducible refine (validWidth_any _ _).mono ?_); rintro e w' ⟨rfl, rfl⟩)
    rw [HW.out]
    go_wp2_with fail
    go_ret
    exact ⟨[], Nat.zero_le _, ints_of rfl rfl (ownI_none _ _) hB1⟩
  have h60 := itemsOk_len hok hn
  obtain ⟨d0, d1⟩ := inR_iff.1 hwo
  have HOK := Lib.hid hok
  have HW := Lib.hid hwo
  have hE := Lib.hid (Blk.new w 3 #[])
  clear hok hn hwo
  go_enter Try.func77, Try.ntmps77
  go_wp2_with fail
  ((with_reducible refine (validItems_s _ _ _ xs _ HN.out hm ?_).mono ?_); (exact HR.out); rintro e w1 ⟨rfl, hb1⟩)
  rw [HOK.out]
  have hB1 : Below w.heap.size w w1 := below_then (Nat.le_refl _) (by (repeat' (first | (with_reducible exact Below.refl _ _) | (with_reducible assumption) | (with_reducible refine Below.alloc ?_ ?_ _) | (with_reducible refine Below.drew ?_) | (with_reducible refine below_drewN ?_ _) | (with_reducible refine Below.setCell ?_ ?_ _) | (with_reducible refine below_then ?_ ?_ (by with_reducible assumption)) | (with_reducible exact Nat.le_refl _) | go_size | (simp only [*]; done)))) hb1
  have hE1 := Lib.hid (hE.out.then_ hb1)
  go_wp2_with fail
  ((with_reducible refine (validWidth_any _ _).mono ?_); rintro e w' ⟨rfl, rfl⟩)
  rw [HW.out]
  go_wp2_with fail
  go_loopg [5, 6] n (fun k o fv wr => ∃ (a q c g : Nat) (F : Int) (out : List Int), a ≤ n ∧ q ≤ a ∧ k = n - a ∧ fv = .int .i64 F ∧ Hid (F = (a : Int) - 1) ∧ Hid (0 < a → brk xs (a - 1) = true) ∧ o = .slice (some ⟨g, 0, none⟩) q c ∧ Hid (OwnI wr w.heap.size (some ⟨g, 0, none⟩) q c out) ∧ Below w.heap.size w wr)
  case atStart => exact ⟨0, 0, 0, w.heap.size, -1, [], Nat.zero_le _, Nat.le_refl _, rfl, rfl, rfl, fun h => absurd h (by omega), rfl, owns_nil _ _ _ _ _ _ _ hE1.out (Nat.le_refl _) (by unfold maxLen; omega) rfl, hB1⟩
  case round =>
    obtain ⟨a, q, c, g, F, out, ha, hq, hk, rfl, hF, hp, rfl, hown, hbel⟩ := hrel
    have HK := Lib.hid hk; clear hk
    obtain ⟨wo, hwo⟩ : ∃ wo : World, wo = wr := ⟨_, rfl⟩
    subst hwo
    have hsz := hbel.size
    have hFe := hF.out
    by_cases hlt : a < n
    · have hFn : F < (n : Int) - 1 := by omega
      have hF0 : -1 ≤ F := by omega
      have hFa : F + 1 = (a : Int) := by omega
      have wF : IntKind.i64.wrap (F + 1) = (a : Int) := by rw [hFa]; exact IntWalk.i64_in _ (by omega)
      have HFA := Lib.hid hFa
      clear hFa hFe
      go_wp2_with fail
      go_loopg [7, 8] (n - a) (fun kk bv tv wi => ∃ (t : Nat) (B : Int), a ≤ t ∧ t ≤ n ∧ kk = n - t ∧ bv = .int .i64 B ∧ tv = .int .i64 (t : Int) ∧ Hid (FF xs F a t n B) ∧ Below wo.heap.size wo wi)
      case atStart => exact ⟨a, -1, Nat.le_refl _, by omega, rfl, rfl, by go_num, .inl ⟨rfl, fun i h1 h2 => by omega⟩, Below.refl _ _⟩
      case round =>
        obtain ⟨t, B, hat, htn, hk2, rfl, rfl, hff, hbi⟩ := hrel
        have HK2 := Lib.hid hk2; clear hk2
        obtain ⟨wi, hwi⟩ : ∃ wi : World, wi = wr := ⟨_, rfl⟩
        subst hwi
        have hszi := hbi.size
        by_cases htl : t < n
        · have htI : (t : Int) < (n : Int) := by omega
          have HROW := Lib.hid ((hr.then_ hbel).then_ hbi)
          rcases hbk : brk xs t with _ | _
          · have HB := Lib.hid hbk
            have HNX := Lib.hid (hff.out.skip (ln_t hbk))
            clear hbk
            go_wp2_with fail
            ((with_reducible refine (isBreak_s _ _ _ _ xs _ HN.out htl hm ?_).mono ?_); (exact HROW.out); rintro e w3 ⟨rfl, hb3⟩)
            rw [HB.out]
            go_wp2_with fail
            go_roundg (n - (t + 1))
            case measure => have := HK2.out; omega
            case rel => exact ⟨t + 1, B, by omega, by omega, rfl, rfl, by go_num, HNX.out, below_then (Nat.le_refl _) hbi hb3⟩
          · have HB := Lib.hid hbk
            rcases hl : lnOk xs F (t : Int) with _ | _
            · have HL := Lib.hid ((lv_ok HOK.out).trans hl)
              have HNX := Lib.hid (hff.out.skip hl)
              clear hbk hl
              go_wp2_with fail
              ((with_reducible refine (isBreak_s _ _ _ _ xs _ HN.out htl hm ?_).mono ?_); (exact HROW.out); rintro e w3 ⟨rfl, hb3⟩)
              rw [HB.out]
              go_wp2_with fail
              ((with_reducible refine (validLine_s _ _ _ _ _ xs _ HN.out hm ?_).mono ?_); (exact HROW.out.then_ hb3); rintro e w4 ⟨rfl, hb4⟩)
              rw [HL.out]
              have hB4 := below_then (Nat.le_refl _) hb3 hb4
              go_wp2_with fail
              go_roundg (n - (t + 1))
              case measure => have := HK2.out; omega
              case rel => exact ⟨t + 1, B, by omega, by omega, rfl, rfl, by go_num, HNX.out, below_then (Nat.le_refl _) hbi hB4⟩
            · have HL := Lib.hid ((lv_ok HOK.out).trans hl)
              have HNF := Lib.hid (show noF xs a t = true by rw [← ln_a HN.out hF.out hat htl hbk hp.out]; exact hl)
              obtain ⟨⟨x0, x1⟩, ⟨y0, y1⟩, z0, z1⟩ := lg_b (a := a) HOK.out HN.out htl
              obtain ⟨ax0, ax1⟩ := cl_b x0
              obtain ⟨ay0, ay1⟩ := cl_b y0
              obtain ⟨az0, az1⟩ := cl_b z0
              obtain ⟨K, hK⟩ : ∃ K, fitK (cl (lgW xs a t)) (cl (lgH xs a t)) d = K := ⟨_, rfl⟩
              have HKK := Lib.hid hK
              clear hbk hl x0 x1 y0 y1 z0 z1 hK
              rcases hff.out with ⟨rfl, _⟩ | ⟨b, rfl, hb0, hb1', hb2⟩
              · go_wp2_with fail
                ((with_reducible refine (isBreak_s _ _ _ _ xs _ HN.out htl hm ?_).mono ?_); (exact HROW.out); rintro e w3 ⟨rfl, hb3⟩)
                rw [HB.out]
                go_wp2_with fail
                ((with_reducible refine (validLine_s _ _ _ _ _ xs _ HN.out hm ?_).mono ?_); (exact HROW.out.then_ hb3); rintro e w4 ⟨rfl, hb4⟩)
                rw [HL.out]
                have hB4 := below_then (Nat.le_refl _) hb3 hb4
                go_wp2_with fail
                ((with_reducible refine (lineGlue_s _ _ _ a t _ xs _ HOK.out HN.out HFA.out hat htl HNF.out ?_).mono ?_); (exact HROW.out.then_ hB4); rintro e w5 ⟨rfl, hb5⟩)
                have hB5 := below_then (Nat.le_refl _) hB4 hb5
                go_wp2_with fail
                ((with_reducible refine (clampGlue_s _ _ _ _).mono ?_); rintro e w6 ⟨rfl, hb6⟩)
                have hB6 := below_then (Nat.le_refl _) hB5 hb6
                go_wp2_with fail
                ((with_reducible refine (fitGlue_s _ _ _ _ _ ax0 ax1 ay0 ay1 az0 az1 (by omega) d1).mono ?_); rintro e w7 ⟨rfl, hb7⟩)
                rw [HKK.out]
                have hB7 := below_then (Nat.le_refl _) hB6 hb7
                go_wp2_with fail
                go_roundg (n - (t + 1))
                case measure => have := HK2.out; omega
                case rel => exact ⟨t + 1, (t : Int), by omega, by omega, rfl, rfl, by go_num, FF.set hat htl HB.out _, below_then (Nat.le_refl _) hbi hB7⟩
              · by_cases hK4 : K = 4
                · subst hK4
                  go_wp2_with fail
                  ((with_reducible refine (isBreak_s _ _ _ _ xs _ HN.out htl hm ?_).mono ?_); (exact HROW.out); rintro e w3 ⟨rfl, hb3⟩)
                  rw [HB.out]
                  go_wp2_with fail
                  ((with_reducible refine (validLine_s _ _ _ _ _ xs _ HN.out hm ?_).mono ?_); (exact HROW.out.then_ hb3); rintro e w4 ⟨rfl, hb4⟩)
                  rw [HL.out]
                  have hB4 := below_then (Nat.le_refl _) hb3 hb4
                  go_wp2_with fail
                  ((with_reducible refine (lineGlue_s _ _ _ a t _ xs _ HOK.out HN.out HFA.out hat htl HNF.out ?_).mono ?_); (exact HROW.out.then_ hB4); rintro e w5 ⟨rfl, hb5⟩)
                  have hB5 := below_then (Nat.le_refl _) hB4 hb5
                  go_wp2_with fail
                  ((with_reducible refine (clampGlue_s _ _ _ _).mono ?_); rintro e w6 ⟨rfl, hb6⟩)
                  have hB6 := below_then (Nat.le_refl _) hB5 hb6
                  go_wp2_with fail
                  ((with_reducible refine (fitGlue_s _ _ _ _ _ ax0 ax1 ay0 ay1 az0 az1 (by omega) d1).mono ?_); rintro e w7 ⟨rfl, hb7⟩)
                  rw [HKK.out]
                  have hB7 := below_then (Nat.le_refl _) hB6 hb7
                  go_wp2_with fail
                  go_roundg (n - (t + 1))
                  case measure => have := HK2.out; omega
                  case rel => exact ⟨t + 1, (b : Int), by omega, by omega, rfl, rfl, by go_num, FF.same hb0 hb1' hb2, below_then (Nat.le_refl _) hbi hB7⟩
                · have hK4' : (K == 4) = false := by simpa using hK4
                  go_wp2_with fail
                  ((with_reducible refine (isBreak_s _ _ _ _ xs _ HN.out htl hm ?_).mono ?_); (exact HROW.out); rintro e w3 ⟨rfl, hb3⟩)
                  rw [HB.out]
                  go_wp2_with fail
                  ((with_reducible refine (validLine_s _ _ _ _ _ xs _ HN.out hm ?_).mono ?_); (exact HROW.out.then_ hb3); rintro e w4 ⟨rfl, hb4⟩)
                  rw [HL.out]
                  have hB4 := below_then (Nat.le_refl _) hb3 hb4
                  go_wp2_with fail
                  ((with_reducible refine (lineGlue_s _ _ _ a t _ xs _ HOK.out HN.out HFA.out hat htl HNF.out ?_).mono ?_); (exact HROW.out.then_ hB4); rintro e w5 ⟨rfl, hb5⟩)
                  have hB5 := below_then (Nat.le_refl _) hB4 hb5
                  go_wp2_with fail
                  ((with_reducible refine (clampGlue_s _ _ _ _).mono ?_); rintro e w6 ⟨rfl, hb6⟩)
                  have hB6 := below_then (Nat.le_refl _) hB5 hb6
                  go_wp2_with fail
                  ((with_reducible refine (fitGlue_s _ _ _ _ _ ax0 ax1 ay0 ay1 az0 az1 (by omega) d1).mono ?_); rintro e w7 ⟨rfl, hb7⟩)
                  rw [HKK.out]
                  have hB7 := below_then (Nat.le_refl _) hB6 hb7
                  go_wp2_with fail
                  go_roundg (n - (t + 1))
                  case measure => have := HK2.out; omega
                  case rel => exact ⟨t + 1, (t : Int), by omega, by omega, rfl, rfl, by go_num, FF.set hat htl HB.out _, below_then (Nat.le_refl _) hbi hB7⟩
        · obtain rfl : t = n := by omega
          obtain ⟨b, hB, hb0, hb1', hb2⟩ : ∃ b : Nat, B = (b : Int) ∧ a ≤ b ∧ b < t ∧ brk xs b = true := by
            rcases hff.out with ⟨_, h⟩ | h
            · obtain ⟨u, u0, u1, u2⟩ := ln_ex HOK.out HN.out hlt hF.out hp.out
              rw [h u u0 u1] at u2
              cases u2
            · exact h
          subst hB
          have hBi := below_then (Nat.le_refl _) hbel hbi
          have hszB := hBi.size
          have HO := Lib.hid ((hown.out.then_ hbi).alloc (.cells #[.int .i64 (b : Int)] 3))
          have HB := Lib.hid (Blk.new wi 3 #[.int .i64 (b : Int)])
          have hbase : w.heap.size ≤ (wi.alloc (.cells #[.int .i64 (b : Int)] 3)).heap.size := by simp; omega
          have hB3a := hBi.alloc hszB (.cells #[.int .i64 (b : Int)] 3)
          clear hff
          go_wp2_with (at_builtin; (refine wpList_append_one _ rfl _ _ 24 rfl w.heap.size 3 i0 _ 1 8 Try.underlying24 hi hz0 hz1 hz2 rfl (by omega) (some ⟨g, 0, none⟩) q c (inl out) rfl HO.out wi.heap.size (inl [(b : Int)]) rfl rfl HB.out (inl_one _) (by omega) (by omega) hbase ?_); intro g4 c4 w4 hown4 hgr4; (have HO4 := Lib.hid hown4); (have hB4 := hB3a.grown hgr4 hB3a.size (fun j hj => (HO.out.lt j hj).1)); clear hown4 hgr4)
          go_roundg (t - (b + 1))
          case measure => have := HK.out; omega
          case rel => exact ⟨b + 1, q + 1, c4, g4, (b : Int), out ++ [(b : Int)], by omega, by omega, rfl, by go_num, (by show _ = _; omega), fun _ => by rw [Nat.add_sub_cancel]; exact hb2, rfl, (by show World.ownsRow _ _ _ _ _ _ _; rw [inl_snoc]; exact HO4.out), hB4⟩
    · obtain rfl : a = n := by omega
      have hFn : (a : Int) - 1 ≤ F := by omega
      have hF1 : F ≤ (a : Int) := by omega
      clear hFe
      go_wp2_with fail
      go_ret
      exact ⟨out, by rw [hown.out.len]; exact hq, ints_of rfl hown.out.len hown.out hbel⟩
end Go.Proofs.Ytkmipgekmbngcaa
