/- The law on more rows answers true: FnColumnsMore. Conditions: the code is a slice of bytes. -/
import Derived.Test.YtbkhimdebpllcaaAnyTable
import Derived.Test.YtbkhimdebpllcaaColsLaw
import Derived.Test.YtbkhimdebpllcaaColsI
import Derived.Test.YtbkhimdebpllcaaLawCols
import Derived.Test.YtbkhimdebpllcaaEqualInts
namespace Go.Proofs.Ytbkhimdebpllcaa
open Go.RowKit

theorem ints_form {w : World} {r ys : List Int} {m : Nat} (hr : r = ys) (hm : ys.length = m) {e : Ending} {w' : World} (h : IntsOut w r e w') : ∃ (A : Option Addr) (d : Nat), e = .returned (.slice A m d) ∧ OwnI w' w.heap.size A m d ys ∧ Below w.heap.size w w' := by
  subst hr hm
  exact h
theorem TabR.take {w : World} {base n k : Nat} {A : Option Addr} {rs : List (List Cl)} (h : TabR w base A n rs) (hk : k ≤ n) : TabR w base A k (rs.take k) := by
  obtain ⟨h1, As, cs, h2, h4, h3⟩ := h
  have e : ∀ i, i < k → rl (rs.take k) i = rl rs i := fun i hi => by
    rw [rl, rl, List.getD_eq_getElem?_getD, List.getD_eq_getElem?_getD, List.getElem?_take_of_lt hi]
  refine ⟨by rw [List.length_take]; omega, As, cs, (h2.init hk).congr (fun i j hi _ => by rw [e i hi]), h4, fun i hi => ?_⟩
  rw [e i hi]
  exact h3 i (by omega)
theorem cols_some {rs : List (List Cl)} {t : Int} {L : List Int} {q : Nat} (hL : colsV rs t = L) (hq : L.length = q) (h0 : q ≠ 0) : tabOk rs t = true ∧ t = (q : Int) ∧ L = cw (spans rs) q := by
  rcases h : tabOk rs t with _ | _
  · rw [cols_no h] at hL
    subst hL
    exact absurd hq.symm h0
  · obtain ⟨⟨h1, h2⟩, _⟩ := tabOk_iff h
    obtain ⟨m, rfl⟩ := Int.eq_ofNat_of_zero_le (show 0 ≤ t by omega)
    rw [cols_yes h] at hL
    subst hL
    rw [cw_len] at hq
    subst hq
    exact ⟨rfl, rfl, rfl⟩

set_option maxRecDepth 100000 in
set_option maxHeartbeats 4000000 in
theorem law_ColumnsMore (A : Option Addr) (n cap : Nat) (cs : List Int) (A2 : Option Addr) (n2 cap2 : Nat) (cs2 : List Int) (w : World) (hc : Code w A n cap cs) (hc2 : Code w A2 n2 cap2 cs2) :
    Calls Try.prog 6 #[.slice A n cap, .slice A2 n2 cap2] w fun e w' => e = .returned (.bool true) ∧ Below w.heap.size w w' := by
  have hn := hc.1
  have hn2 := hc2.1
  unfold maxLen at hn hn2
  clear hc2
  by_cases hbig : 1048576 < n
  · go_enter Try.func6, Try.ntmps6
    go_wp2
    go_returns
    exact ⟨rfl, Below.refl _ _⟩
  by_cases hbig2 : 1048576 < n2
  · go_enter Try.func6, Try.ntmps6
    go_wp2
    go_returns
    exact ⟨rfl, Below.refl _ _⟩
  go_enter Try.func6, Try.ntmps6
  go_wp2_with fail
  ((with_reducible refine (DrawColumnWidths_any _ _ _ cs _ hc).mono ?_); rintro e w1 ⟨g, k, c, rs, t, rfl, hk, ⟨hkc, hcm⟩, hT1, hb1⟩)
  have hkx : k ≤ maxLen := by omega
  obtain ⟨L, hL⟩ : ∃ L, colsV rs t = L := ⟨_, rfl⟩
  obtain ⟨q, hq⟩ : ∃ q, L.length = q := ⟨_, rfl⟩
  have hq8 : q ≤ 8 := by rw [← hq, ← hL]; exact colsV_len _ _
  have hqx : q ≤ maxLen := by unfold maxLen; omega
  have HL := Lib.hid hL
  have HQ := Lib.hid hq
  clear hL hq hc
  go_wp2_with fail
  ((with_reducible refine ((columnWidths_i _ _ _ t rs _ hkx ?_).mono fun _ _ h => ints_form HL.out HQ.out h).mono ?_); (exact hT1.tab); rintro e w2 ⟨P2, d2, rfl, o2, hb2⟩)
  have hT2 := hT1.then_ hb2
  have hB2 := below_then (Nat.le_refl _) hb1 hb2
  go_wp2_with fail
  ((with_reducible refine ((columnWidths_S _ _ _ t rs _ hkx ?_).mono fun _ _ h => ints_form HL.out HQ.out h).mono ?_); (exact hT2.tab); rintro e w3 ⟨P3, d3, rfl, o3, hb3⟩)
  have hT3 := hT2.then_ hb3
  have hB3 := below_then (Nat.le_refl _) hB2 hb3
  have o23 := o2.then_ hb3
  go_wp2_with fail
  ((with_reducible refine (equalInts_same _ _ _ _ _ L _ hqx ?_ ?_).mono ?_); (exact o23.row); (exact o3.row); rintro e w4 ⟨rfl, hb4⟩)
  have hT4 := hT3.then_ hb4
  have hB4 := below_then (Nat.le_refl _) hB3 hb4
  have o24 := o23.then_ hb4
  have hz4 := hB4.size
  clear hT1 hT2 hT3 o2 o3 o23
  by_cases hq0 : q = 0
  · subst hq0
    go_wp2_with fail
    ((with_reducible refine ((columnWidths_S _ _ _ t rs _ hkx ?_).mono fun _ _ h => ints_form HL.out HQ.out h).mono ?_); (exact hT4.tab); rintro e w5 ⟨P5, d5, rfl, o5, hb5⟩)
    have o25 := o24.then_ hb5
    have hB5 := below_then (Nat.le_refl _) hB4 hb5
    go_wp2_with fail
    ((with_reducible refine (equalInts_same _ _ _ _ _ L _ hqx ?_ ?_).mono ?_); (exact o25.row); (exact o5.row); rintro e w6 ⟨rfl, hb6⟩)
    go_wp2_with fail
    go_returns
    exact ⟨rfl, below_then (Nat.le_refl _) hB5 hb6⟩
  have hqb : ((q : Int) == 0) = false := by simp; omega
  obtain ⟨htab, htq, hLc⟩ := cols_some HL.out HQ.out hq0
  subst htq
  have HTAB := Lib.hid htab
  have HLC := Lib.hid hLc
  have HT4 := Lib.hid hT4
  have HO2 := Lib.hid o24
  obtain ⟨hrn, As, cp, h2, _, _⟩ := hT4
  have HRN := Lib.hid hrn
  clear htab hLc o24 hrn
  go_wp2_with fail
  go_loopg [8] k (fun kk i wr => ∃ j : Nat, j ≤ k ∧ kk = k - j ∧ i = .int .i64 j ∧ Hid (∀ i, i < j → (rl rs i).length = q) ∧ Below w4.heap.size w4 wr)
  case atStart => exact ⟨0, Nat.zero_le _, rfl, rfl, fun i hi => absurd hi (by omega), Below.refl _ _⟩
  case round =>
    obtain ⟨j, hj, hkk, rfl, hall, hbel⟩ := hrel
    have HK := Lib.hid hkk; clear hkk
    have hsz := hbel.size
    by_cases hlt : j < k
    · obtain ⟨b, off, hA, hb, hc⟩ := h2.at1 (by omega)
      have c0 : wr.cell? ⟨b, off + j, none⟩ = _ := (hbel.cell (p := ⟨b, off + j, none⟩) hb).trans (hc j hlt)
      injection hA with hA
      injection hA with hA1 hA2
      subst hA1 hA2
      rw [Nat.zero_add] at c0
      obtain ⟨x, hx⟩ : ∃ x, (rl rs j).length = x := ⟨_, rfl⟩
      rw [hx] at c0
      have hlt' : (j : Int) < (k : Int) := by omega
      clear hc
      by_cases hxq : x = q
      · have hxq' : ((x : Int) == (q : Int)) = true := by simp [hxq]
        subst hxq
        have HX := Lib.hid hx
        clear hx hxq'
        go_wp2_with fail
        go_roundg (k - (j + 1))
        case measure => have := HK.out; omega
        case rel => exact ⟨j + 1, by omega, rfl, by go_num, fun i hi => by
          by_cases e : i = j
          · subst e; exact HX.out
          · exact hall.out i (by omega), by (repeat' (first | (with_reducible exact Below.refl _ _) | (with_reducible assumption) | (with_reducible refine Below.alloc ?_ ?_ _) | (with_reducible refine Below.drew ?_) | (with_reducible refine below_drewN ?_ _) | (with_reducible refine Below.setCell ?_ ?_ _) | (with_reducible refine below_then ?_ ?_ (by with_reducible assumption)) | (with_reducible exact Nat.le_refl _) | go_size | (simp only [*]; done)))⟩
      · have hxq' : ((x : Int) == (q : Int)) = false := by simp; omega
        clear hx
        go_wp2_with fail
        go_returns
        exact ⟨rfl, below_then (Nat.le_refl _) hB4 hbel⟩
    · have ej : j = k := by omega
      subst ej
      have hTr := HT4.out.then_ hbel
      have hB := below_then (Nat.le_refl _) hB4 hbel
      have o2r := HO2.out.then_ hbel
      have hm : n2 % (j + 1) ≤ j := by have := Nat.mod_lt n2 (show 0 < j + 1 by omega); omega
      have hm' : (n2 : Int) % ((j : Int) + 1) ≤ (c : Int) := by
        have e : (n2 : Int) % ((j : Int) + 1) = ((n2 % (j + 1) : Nat) : Int) := by simp
        rw [e]; omega
      have hm0 : (0 : Int) ≤ (n2 : Int) % ((j : Int) + 1) := Int.emod_nonneg _ (by omega)
      have hF := cols_yes (tab_take HTAB.out (n2 % (j + 1)))
      obtain ⟨F, hFF⟩ : ∃ F, colsV (rs.take (n2 % (j + 1))) (q : Int) = F := ⟨_, rfl⟩
      have hFl : F.length = q := by rw [← hFF, hF, cw_len]
      have hle : ∀ i, i < q → F.getD i default ≤ L.getD i default := fun i hi => by
        rw [← hFF, ← HL.out]
        exact cols_more HTAB.out (fun r hr => by
          obtain ⟨i, hi, e⟩ := List.mem_iff_getElem.1 hr
          have := hall.out i (by rw [← HRN.out]; exact hi)
          rwa [rl, List.getD_eq_getElem?_getD, List.getElem?_eq_getElem hi, Option.getD_some, e] at this) _ hi
      have HF := Lib.hid hFF
      have HFL := Lib.hid hFl
      have HLE := Lib.hid hle
      have HM := Lib.hid hm
      clear hF hFF hFl hle hm
      go_wp2_with fail
      ((with_reducible refine ((columnWidths_i _ _ _ (q : Int) (rs.take (n2 % (j + 1))) _ (by have := HM.out; omega) ?_).mono fun _ _ h => ints_form HF.out HFL.out h).mono ?_); (exact (hTr.take HM.out).tab); rintro e w5 ⟨P5, d5, rfl, o5, hb5⟩)
      have hB5 := below_then (Nat.le_refl _) hB hb5
      have o25 := o2r.then_ hb5
      have HR5 := Lib.hid o5.row
      have HR2 := Lib.hid o25.row
      clear o5 o25 o2r hTr
      go_wp2_with fail
      go_loopg [10] q (fun kk i wr => ∃ j : Nat, j ≤ q ∧ kk = q - j ∧ i = .int .i64 j ∧ Below w5.heap.size w5 wr)
      case atStart => exact ⟨0, Nat.zero_le _, rfl, rfl, Below.refl _ _⟩
      case round =>
        obtain ⟨j', hj', hk', rfl, hbel'⟩ := hrel
        have HK' := Lib.hid hk'; clear hk'
        have hsz' := hbel'.size
        by_cases hlt' : j' < q
        · obtain ⟨b', off', hA', hb', hc'⟩ := HR5.out.at1 (by omega)
          have d0 : wr.cell? ⟨b', off' + j', none⟩ = _ := (hbel'.cell (p := ⟨b', off' + j', none⟩) hb').trans (hc' j' hlt')
          obtain ⟨b, off, hA, hb, hc⟩ := HR2.out.at1 (by omega)
          have c0 : wr.cell? ⟨b, off + j', none⟩ = _ := (hbel'.cell (p := ⟨b, off + j', none⟩) hb).trans (hc j' hlt')
          subst hA' hA
          have hxy := HLE.out j' hlt'
          obtain ⟨x, hx⟩ : ∃ x, F.getD j' default = x := ⟨_, rfl⟩
          obtain ⟨y, hy⟩ : ∃ y, L.getD j' default = y := ⟨_, rfl⟩
          rw [hx, hy] at hxy
          simp only [inc, hx, hy] at c0 d0
          clear hc hc' hx hy
          have hltI : (j' : Int) < (q : Int) := by omega
          go_wp2_with fail
          go_region
          all_goals
            go_wp2_with fail
            go_roundg (q - (j' + 1))
            case measure => have := HK'.out; omega
            case rel => exact ⟨j' + 1, by omega, rfl, by go_num, by (repeat' (first | (with_reducible exact Below.refl _ _) | (with_reducible assumption) | (with_reducible refine Below.alloc ?_ ?_ _) | (with_reducible refine Below.drew ?_) | (with_reducible refine below_drewN ?_ _) | (with_reducible refine Below.setCell ?_ ?_ _) | (with_reducible refine below_then ?_ ?_ (by with_reducible assumption)) | (with_reducible exact Nat.le_refl _) | go_size | (simp only [*]; done)))⟩
        · go_wp2_with fail
          go_returns
          exact ⟨rfl, below_then (Nat.le_refl _) hB5 hbel'⟩
end Go.Proofs.Ytbkhimdebpllcaa
