/- The law on the widths of columns answers true: FnColumnWidths. Conditions: the code is a slice of bytes. -/
import Derived.Test.YtbkhimdebpllcaaColsLawM
import Derived.Test.YtbkhimdebpllcaaAppend2
import Derived.Test.YtbkhimdebpllcaaFits
import Derived.Test.YtbkhimdebpllcaaDrawInts
namespace Go.Proofs.Ytbkhimdebpllcaa
open Go.RowKit

theorem OwnI.init {w : World} {base g n c k : Nat} {xs : List Int} (h : OwnI w base (some ⟨g, 0, none⟩) n c xs) (hk : k ≤ n) : OwnI w base (some ⟨g, 0, none⟩) k c (xs.take k) := by
  have hl := h.len
  refine ⟨by rw [inl_len, List.length_take]; omega, .inr ?_⟩
  rcases h.2 with ⟨hv, _⟩ | ⟨g', cap, cur, hv, h1, h2, h3, h4, h5, h6⟩
  · cases hv
  · cases hv
    refine ⟨g, c, cur, rfl, h1, h2, by omega, h4, h5, ?_⟩
    have e : inl (xs.take k) = (inl xs).take k := by simp [inl, List.map_take]
    rw [e, ← h6, List.take_take, Nat.mul_one, Nat.mul_one, Nat.min_eq_left hk]
theorem own_some {w : World} {base n c : Nat} {A : Option Addr} {xs : List Int} (h : OwnI w base A n c xs) (hn : 0 < n) : ∃ g, A = some ⟨g, 0, none⟩ := by
  rcases h.2 with ⟨_, h0⟩ | ⟨g, cap, cur, hv, _⟩
  · omega
  · cases hv; exact ⟨g, rfl⟩
theorem sum_pre {r : List Cl} (h : ∀ c ∈ r, 1 ≤ c.s) {x y : Nat} (hxy : x < y) (hy : y ≤ r.length) : sumS (r.take x) < sumS (r.take y) := by
  induction y with
  | zero => omega
  | succ y ih =>
    have e : r.take (y + 1) = r.take y ++ [r.getD y default] := tk_snoc r y (by omega)
    have hm := h (r.getD y default) (mem_of_getD rfl (show y < r.length by omega) rfl)
    rw [e, sumS_snoc]
    rcases Nat.lt_or_ge x y with h1 | h1
    · have := ih h1 (by omega); omega
    · rw [show x = y by omega]; omega
theorem pre_end {r : List Cl} (h : ∀ c ∈ r, 1 ≤ c.s) {x l : Nat} {M : Int} (hl : r.length = l) (hx : sumS (r.take x) ≤ M) (he : x < l → M < sumS (r.take x) + (r.getD x default).s) (hxl : x ≤ l) : ∀ y, y ≤ l → sumS (r.take y) = M → y = x := by
  intro y hy hs
  rcases Nat.lt_trichotomy y x with h1 | h1 | h1
  · have := sum_pre h h1 (by omega); omega
  · exact h1
  · have h2 := he (by omega)
    have e : r.take (x + 1) = r.take x ++ [r.getD x default] := tk_snoc r x (by omega)
    rcases Nat.lt_or_ge (x + 1) y with h3 | h3
    · have := sum_pre h h3 (by omega)
      rw [e, sumS_snoc] at this
      omega
    · rw [show y = x + 1 by omega, e, sumS_snoc] at hs
      omega
theorem row_pos (r : List Cl) : ∀ left v : Int, rowR left r = some v → ∀ c ∈ r, 1 ≤ c.s ∧ c.s ≤ left ∧ 0 ≤ c.w ∧ c.w ≤ 1000 := by
  induction r with
  | nil => intro left v _ c hc; cases hc
  | cons d r ih =>
    intro left v h c hc
    simp only [rowR] at h
    split at h
    · rename_i hd
      simp only [Bool.and_eq_true, inR_iff] at hd
      rcases List.mem_cons.1 hc with rfl | hc
      · exact ⟨hd.2.1, hd.2.2, hd.1.1, hd.1.2⟩
      · have := ih _ _ h c hc
        omega
    · cases h

set_option maxRecDepth 100000 in
set_option maxHeartbeats 4000000 in
theorem law_ColumnWidths (A : Option Addr) (n cap : Nat) (cs : List Int) (A2 : Option Addr) (n2 cap2 : Nat) (cs2 : List Int) (w : World) (hc : Code w A n cap cs) (hc2 : Code w A2 n2 cap2 cs2) :
    Calls Try.prog 8 #[.slice A n cap, .slice A2 n2 cap2] w fun e w' => e = .returned (.bool true) ∧ Below w.heap.size w w' := by
  have hn := hc.1
  have hn2 := hc2.1
  unfold maxLen at hn hn2
  clear hc2
  by_cases hbig : 1048576 < n
  · go_enter Try.func8, Try.ntmps8
    go_wp2
    go_returns
    exact ⟨rfl, Below.refl _ _⟩
  by_cases hbig2 : 1048576 < n2
  · go_enter Try.func8, Try.ntmps8
    go_wp2
    go_returns
    exact ⟨rfl, Below.refl _ _⟩
  obtain ⟨j0, ji, jz0, jz1, jz2⟩ := info_parts cell_info
  obtain ⟨i0, ii, iz0, iz1, iz2⟩ := info_parts cellS_info
  obtain ⟨t0, ti, tz0, tz1, tz2⟩ := info_parts int_info
  go_enter Try.func8, Try.ntmps8
  go_wp2_with fail
  ((with_reducible refine (DrawColumnWidths_any _ _ _ cs _ hc).mono ?_); rintro e w1 ⟨g, k, c, rs, t, rfl, hk, ⟨hkc, hcm⟩, hT1, hb1⟩)
  have hkx : k ≤ maxLen := by omega
  obtain ⟨L, hL⟩ : ∃ L, colsV rs t = L := ⟨_, rfl⟩
  obtain ⟨q, hq⟩ : ∃ q, L.length = q := ⟨_, rfl⟩
  have hq8 : q ≤ 8 := by rw [← hq, ← hL]; exact colsV_len _ _
  have hqx : q ≤ maxLen := by unfold maxLen; omega
  have HL := Lib.hid hL
  have HQ := Lib.hid hq
  clear hL hq hc
  go_wp2_with fail
  ((with_reducible refine ((columnWidths_i _ _ _ t rs _ hkx ?_).mono fun _ _ h => ints_form HL.out HQ.out h).mono ?_); (exact hT1.tab); rintro e w2 ⟨P2, d2, rfl, o2, hb2⟩)
  have hT2 := hT1.then_ hb2
  have hB2 := below_then (Nat.le_refl _) hb1 hb2
  go_wp2_with fail
  ((with_reducible refine ((columnWidths_S _ _ _ t rs _ hkx ?_).mono fun _ _ h => ints_form HL.out HQ.out h).mono ?_); (exact hT2.tab); rintro e w3 ⟨P3, d3, rfl, o3, hb3⟩)
  have hT3 := hT2.then_ hb3
  have hB3 := below_then (Nat.le_refl _) hB2 hb3
  have o23 := o2.then_ hb3
  go_wp2_with fail
  ((with_reducible refine (equalInts_same _ _ _ _ _ L _ hqx ?_ ?_).mono ?_); (exact o23.row); (exact o3.row); rintro e w4 ⟨rfl, hb4⟩)
  have hT4 := hT3.then_ hb4
  have hB4 := below_then (Nat.le_refl _) hB3 hb4
  have o24 := o23.then_ hb4
  have hz4 := hB4.size
  clear hT1 hT2 hT3 o2 o3 o23
  by_cases hq0 : q = 0
  · subst hq0
    go_wp2_with fail
    ((with_reducible refine ((columnWidths_S _ _ _ t rs _ hkx ?_).mono fun _ _ h => ints_form HL.out HQ.out h).mono ?_); (exact hT4.tab); rintro e w5 ⟨P5, d5, rfl, o5, hb5⟩)
    have o25 := o24.then_ hb5
    have hB5 := below_then (Nat.le_refl _) hB4 hb5
    go_wp2_with fail
    ((with_reducible refine (equalInts_same _ _ _ _ _ L _ hqx ?_ ?_).mono ?_); (exact o25.row); (exact o5.row); rintro e w6 ⟨rfl, hb6⟩)
    go_wp2_with fail
    go_returns
    exact ⟨rfl, below_then (Nat.le_refl _) hB5 hb6⟩
  have hqb : ((q : Int) == 0) = false := by simp; omega
  obtain ⟨htab, htq, hLc⟩ := cols_some HL.out HQ.out hq0
  subst htq
  obtain ⟨gw, rfl⟩ := own_some o24 (by omega)
  obtain ⟨m, hm⟩ : ∃ m, n2 % q = m := ⟨_, rfl⟩
  have hmq : m < q := by rw [← hm]; exact Nat.mod_lt _ (by omega)
  have hmI : (n2 : Int) % (q : Int) = (m : Int) := by rw [← hm]; simp
  have hmc : (m : Int) + 1 ≤ (d2 : Int) := by have := (own_cap o24).1; omega
  have hd2 := (own_cap o24).2.1
  have hgw := (o24.lt gw rfl).2
  have HTAB := Lib.hid htab
  have HLC := Lib.hid hLc
  have HT4 := Lib.hid hT4
  have HO2 := Lib.hid o24
  clear htab hLc o24 hT4 hm
  obtain ⟨y, hy⟩ : ∃ y, L.getD m default = y := ⟨_, rfl⟩
  have hyb : 0 ≤ y ∧ y ≤ 1000 := by
    have hm := mem_of_getD HQ.out hmq hy
    rw [HLC.out] at hm
    exact cw_b (fun s hs => (spans_rng HTAB.out s hs).2.2.2) q y hm
  obtain ⟨hy0, hy1⟩ := hyb
  have HTK := Lib.hid (show (L.take (m + 1)).getD m default = y by rw [List.getD_eq_getElem?_getD, List.getElem?_take_of_lt (by omega), ← List.getD_eq_getElem?_getD, hy])
  have HY := Lib.hid hy
  clear hy
  have HO := Lib.hid (own_nil (w4.alloc (.cells #[] 3)) w4.heap.size w4.heap.size (Blk.new w4 3 #[]) (Nat.le_refl _))
  have HO3 := Lib.hid ((HO2.out.init (show m + 1 ≤ q by omega)).alloc (.cells #[] 3))
  have HS := Lib.hid (show w4.heap.size ≤ (w4.alloc (.cells #[] 3)).heap.size by simp)
  have hBa := (Below.refl w4.heap.size w4).alloc (Nat.le_refl _) (.cells #[] 3)
  go_wp2_with (at_builtin; (refine wpList_append_two _ rfl _ _ 22 rfl w4.heap.size 3 t0 _ 1 8 Try.underlying22 ti tz0 tz1 tz2 rfl (by omega) w4.heap.size 0 0 [] rfl HO.out gw (m + 1) d2 w1.heap.size (inl (L.take (m + 1))) rfl HO3.out (inl_one _) (by omega) (by omega) HS.out ?_); intro gl cl w5 hown5 hgr5; simp only [Nat.zero_add, List.nil_append] at hown5 ⊢; (have HO5 := Lib.hid hown5); (have hB5 := hBa.grown hgr5 hBa.size (fun k hk => by cases hk; exact Nat.le_refl _)); (have k0 := OwnI.cellI HO5.out (show m < m + 1 by omega)); rw [HTK.out] at k0; (have f0 := World.ownsRow.frozenAt HO5.out m); clear hown5 hgr5)
  obtain ⟨w6, hw6⟩ : ∃ w6, w6 = w5.setCell ⟨gl, m, none⟩ (.int .i64 (y - 1)) := ⟨_, rfl⟩
  have hs56 : w5.heap.size = w6.heap.size := by rw [hw6]; simp [World.setCell]
  rw [← hw6, hs56]
  have hgl := (HO5.out.lt gl rfl).1
  have hO6 : OwnI w6 w4.heap.size (some ⟨gl, 0, none⟩) (m + 1) cl ((L.take (m + 1)).set m (y - 1)) := by rw [hw6]; exact OwnI.stored (j := m) HO5.out (y - 1)
  have hB6 : Below w4.heap.size w4 w6 := by rw [hw6]; exact hB5.setCell hgl _
  have hz6 := hB6.size
  have hT6 := HT4.out.then_ hB6
  have hO26 := HO2.out.then_ hB6
  have hB46 := below_then (Nat.le_refl _) hB4 hB6
  have hN6 := Lib.hid (TabOwn.nil (base := w6.heap.size) w6.heap.size (Blk.new w6 43 #[]) (Nat.le_refl _))
  have hBn := (Below.refl w6.heap.size w6).alloc (Nat.le_refl _) (.cells #[] 43)
  have HO6 := Lib.hid hO6
  have HT6 := Lib.hid hT6
  have HO26 := Lib.hid hO26
  obtain ⟨hrn, As, cp, h2, hAb, h3⟩ := hT6
  have HRN := Lib.hid hrn
  have H3 := Lib.hid h3
  have hrows : ∀ j, j < k → rowR (q : Int) (rl rs j) = some 0 := fun j hj => rowOk_some ((tabOk_iff HTAB.out).2.2 _ (mem_of_getD HRN.out hj rfl))
  have HROWS := Lib.hid hrows
  clear hw6 k0 f0 hB5 hBa HO5 HO HO3 HS hO6 hO26 hrn h3 hrows hz4
  go_loopg [10, 11] k (fun kk ps i wr => ∃ (j gp c2 pn : Nat) (rp : List (List Cl)) (Gp : Nat → Option Addr) (cq : Nat → Nat), j ≤ k ∧ kk = k - j ∧ ps = .slice (some ⟨gp, 0, none⟩) pn c2 ∧ i = .int .i64 (j : Int) ∧ pn ≤ j ∧ Hid (TabOwn wr w6.heap.size (some ⟨gp, 0, none⟩) pn c2 rp Gp cq) ∧ Hid (∀ i, i < j → ∀ x, x ≤ (rl rs i).length → sumS ((rl rs i).take x) = (m : Int) + 1 → (rl rs i).take x ∈ rp) ∧ Below w6.heap.size w6 wr)
  case atStart => exact ⟨0, w6.heap.size, 0, 0, [], _, _, Nat.zero_le _, rfl, rfl, by go_num, Nat.le_refl _, hN6.out, fun i hi => absurd hi (by omega), hBn⟩
  case round =>
    obtain ⟨j, gp, c2, pn, rp, Gp, cq, hj, hkk, rfl, rfl, hpn, hown, hall, hbel⟩ := hrel
    have HK := Lib.hid hkk; clear hkk
    obtain ⟨wo, hwo⟩ : ∃ wo : World, wo = wr := ⟨_, rfl⟩
    subst hwo
    have hsz := hbel.size
    by_cases hlt : j < k
    · have hltI : (j : Int) < (k : Int) := by omega
      obtain ⟨b, off, hA, hb, hc⟩ := h2.at1 (by omega)
      injection hA with hA
      injection hA with hA1 hA2
      subst hA1 hA2
      have cc := hc j hlt
      rw [Nat.zero_add] at cc
      obtain ⟨hlm, hrow, _⟩ := H3.out j hlt
      have hR0 := HROWS.out j hlt
      obtain ⟨r, hr⟩ : ∃ r, rl rs j = r := ⟨_, rfl⟩
      obtain ⟨l, hl⟩ : ∃ l, r.length = l := ⟨_, rfl⟩
      obtain ⟨D, hD⟩ : ∃ D, As j = D := ⟨_, rfl⟩
      obtain ⟨d, hd⟩ : ∃ d, cp j = d := ⟨_, rfl⟩
      rw [hr] at hlm hrow hR0 cc
      rw [hl] at hlm hrow cc
      rw [hD] at hrow cc
      rw [hd] at cc
      have hl8 : l ≤ 8 := by
        have := (rowR_rng r _ _ (by omega) hR0).2
        rw [hl] at this
        omega
      have hcl := row_pos r _ _ hR0
      have HR := Lib.hid hr
      have HLN := Lib.hid hl
      have HROW := Lib.hid hrow
      have HCL := Lib.hid hcl
      have HCC := Lib.hid cc
      have hE := Lib.hid (owns_nil (wo.alloc (.cells #[] 46)) wo.heap.size 46 2 0 _ _ (Blk.new wo 46 #[]) (Nat.le_refl _) (by unfold maxLen; omega) rfl)
      have hBE := (Below.refl wo.heap.size wo).alloc (Nat.le_refl _) (.cells #[] 46)
      clear hr hl hD hd hrow hcl hc cc
      go_wp2_with fail
      go_loopg [12, 13, 14] l (fun kk lv av nv wi => ∃ (x g2 c3 : Nat) (a : Int), x ≤ l ∧ kk = l - x ∧ lv = .slice (some ⟨g2, 0, none⟩) x c3 ∧ av = .int .i64 a ∧ nv = .int .i64 (x : Int) ∧ 0 ≤ a ∧ a ≤ (m : Int) + 1 ∧ Hid (sumS (r.take x) = a) ∧ Hid (OwnC wi wo.heap.size (some ⟨g2, 0, none⟩) x c3 (r.take x)) ∧ Below wo.heap.size wo wi)
      case atStart => exact ⟨0, wo.heap.size, 0, 0, Nat.zero_le _, rfl, rfl, rfl, by go_num, by omega, by omega, rfl, hE.out, hBE⟩
      case round =>
        obtain ⟨x, g2, c3, a, hx, hkx2, rfl, rfl, rfl, ha0, ham, hsum, hownc, hbi⟩ := hrel
        have HK2 := Lib.hid hkx2; clear hkx2
        obtain ⟨wi, hwi⟩ : ∃ wi : World, wi = wr := ⟨_, rfl⟩
        subst hwi
        have hszi := hbi.size
        have c0 : wi.cell? ⟨g, j, none⟩ = some (.slice D l d) := (hbi.cell (p := ⟨g, j, none⟩) (by simp; omega)).trans ((hbel.cell (p := ⟨g, j, none⟩) hb).trans HCC.out)
        obtain ⟨⟨s, v⟩, hy⟩ : ∃ y, r.getD x default = y := ⟨_, rfl⟩
        by_cases hgo : x < l ∧ a + s ≤ (m : Int) + 1
        · obtain ⟨hx2, has⟩ := hgo
          obtain ⟨b2, off2, hD2, hb2, hc2⟩ := HROW.out (by omega)
          subst hD2
          have q0 := hc2 x 0 hx2 (by omega)
          have q1 := hc2 x 1 hx2 (by omega)
          simp only [clc, hy, Nat.add_zero] at q0 q1
          have k0 : wi.cell? ⟨b2, off2 + x * 2, none⟩ = some (.int .i64 s) := (hbi.cell (p := ⟨b2, off2 + x * 2, none⟩) (by simp; omega)).trans ((hbel.cell (p := ⟨b2, off2 + x * 2, none⟩) hb2).trans q0)
          have k1 : wi.cell? ⟨b2, off2 + x * 2 + 1, none⟩ = some (.int .i64 v) := (hbi.cell (p := ⟨b2, off2 + x * 2 + 1, none⟩) (by simp; omega)).trans ((hbel.cell (p := ⟨b2, off2 + x * 2 + 1, none⟩) hb2).trans q1)
          obtain ⟨hs1, hs2, _, _⟩ := HCL.out _ (mem_of_getD HLN.out hx2 hy)
          simp only at hs1 hs2
          have hx2I : (x : Int) < (l : Int) := by omega
          have HSN := Lib.hid (show r.take (x + 1) = r.take x ++ [⟨s, v⟩] from tk_snoc' HLN.out hx2 hy)
          have HQ0 := Lib.hid q0
          have HC0 := Lib.hid c0
          have HKK := Lib.hid k0
          have hbb2 : b2 < wo.heap.size := by omega
          have hbg2 : g < wo.heap.size := by omega
          have hBX := hbi.alloc hszi (.cells #[.int .i64 s, .int .i64 v] 46)
          have HO := Lib.hid (World.ownsRow.alloc hownc.out (.cells #[.int .i64 s, .int .i64 v] 46))
          have HB := Lib.hid (Blk.new wi 46 #[.int .i64 s, .int .i64 v])
          have HBASE := Lib.hid (show wo.heap.size ≤ (wi.alloc (.cells #[.int .i64 s, .int .i64 v] 46)).heap.size by simp; omega)
          clear hy q0 q1 hc2
          go_wp2_with (at_builtin; (refine wpList_append_one _ rfl _ _ 43 rfl wo.heap.size 46 j0 _ 2 16 Try.underlying43 ji jz0 jz1 jz2 rfl (by omega) (some ⟨g2, 0, none⟩) x c3 ((r.take x).flatMap cll) rfl HO.out wi.heap.size (cll (⟨s, v⟩ : Cl)) rfl rfl HB.out (cll_one _) (by omega) (by omega) HBASE.out ?_); intro g7 c7 w7 hown7 hgr7; (have HO7 := Lib.hid hown7); (have hB7 := hBX.grown hgr7 hBX.size (fun k hk => (HO.out.lt k hk).1)); (have m0 := (hB7.cell (p := ⟨g, j, none⟩) hbg2).trans ((hbi.cell (p := ⟨g, j, none⟩) hbg2).symm.trans HC0.out)); (have m1 := (hB7.cell (p := ⟨b2, off2 + x * 2, none⟩) hbb2).trans ((hbi.cell (p := ⟨b2, off2 + x * 2, none⟩) hbb2).symm.trans HKK.out)); clear hown7 hgr7)
          go_roundg (l - (x + 1))
          case measure => have := HK2.out; omega
          case rel => exact ⟨x + 1, g7, c7, a + s, by omega, rfl, rfl, by go_num, by go_num, by omega, has, by show _ = _; rw [HSN.out, sumS_snoc, hsum.out], by show OwnC _ _ _ _ _ _; rw [HSN.out]; exact OwnC.snoc HO7.out, hB7⟩
        · have hend := pre_end (r := r) (x := x) (l := l) (M := (m : Int) + 1) (fun c hc => (HCL.out c hc).1) HLN.out (by rw [hsum.out]; exact ham) (fun h => by rw [hsum.out, hy]; show _ < a + s; omega) hx
          have HEND := Lib.hid hend
          clear hend
          by_cases hx2 : x < l
          · have has : ¬ a + s ≤ (m : Int) + 1 := fun h => hgo ⟨hx2, h⟩
            obtain ⟨b2, off2, hD2, hb2, hc2⟩ := HROW.out (by omega)
            subst hD2
            have q0 := hc2 x 0 hx2 (by omega)
            simp only [clc, hy, Nat.add_zero] at q0
            have k0 : wi.cell? ⟨b2, off2 + x * 2, none⟩ = some (.int .i64 s) := (hbi.cell (p := ⟨b2, off2 + x * 2, none⟩) (by simp; omega)).trans ((hbel.cell (p := ⟨b2, off2 + x * 2, none⟩) hb2).trans q0)
            obtain ⟨hs1, hs2, _, _⟩ := HCL.out _ (mem_of_getD HLN.out hx2 hy)
            simp only at hs1 hs2
            have hx2I : (x : Int) < (l : Int) := by omega
            clear hy q0 hc2 hgo
            by_cases hae : a = (m : Int) + 1
            · subst hae
              have hcl3 := hownc.out.len
              have HLR := Lib.hid hcl3
              have HT := Lib.hid ((hown.out.then_ hbi).alloc (.cells #[.slice (some ⟨g2, 0, none⟩) x c3] 43))
              have HLL := Lib.hid HT.out.list
              have HC := Lib.hid ((hownc.out.p.alloc (.cells #[.slice (some ⟨g2, 0, none⟩) x c3] 43)).mono hsz)
              have HB := Lib.hid (Blk.new wi 43 #[.slice (some ⟨g2, 0, none⟩) x c3])
              have HBASE := Lib.hid (show w6.heap.size ≤ (wi.alloc (.cells #[.slice (some ⟨g2, 0, none⟩) x c3] 43)).heap.size by simp; omega)
              have hBX := (below_then (Nat.le_refl _) hbel hbi).alloc (Nat.le_trans hsz hszi) (.cells #[.slice (some ⟨g2, 0, none⟩) x c3] 43)
              have HAHI := Lib.hid hown.out.blkA
              have HGHI := Lib.hid hown.out.blkG
              have HG2 := Lib.hid (hownc.out.p.blk ⟨g2, 0, none⟩ rfl)
              clear hcl3
              go_wp2_with (at_builtin; (refine wpList_append_one_at _ rfl _ _ 31 rfl w6.heap.size 43 i0 _ 1 24 Try.underlying31 ii iz0 iz1 iz2 rfl (by omega) (some ⟨gp, 0, none⟩) pn c2 (outs rp pn Gp cq) rfl HLL.out wi.heap.size [.slice (some ⟨g2, 0, none⟩) x c3] rfl rfl HB.out (by simp [Value.oneCell']) (by omega) (by omega) HBASE.out ?_); intro g7 c7 w7 hown7 hgr7 hat7; (have HO7 := Lib.hid hown7); (have HG7 := Lib.hid hgr7); (have HA7 := Lib.hid hat7); (have hB7 := hBX.grown hgr7 hBX.size (fun k hk => (HLL.out.lt k hk).1)); clear hown7 hgr7 hat7)
              go_roundg (k - (j + 1))
              case measure => have := HK.out; omega
              case rel =>
                refine ⟨j + 1, g7, c7, pn + 1, rp ++ [r.take x], _, _, by omega, rfl, rfl, by go_num, by omega, TabOwn.snoc HT.out HLR.out HC.out ?_ ?_ HO7.out HG7.out HA7.out, ?_, hB7⟩
                · intro z hz y hy e
                  cases hz
                  have h2 := HAHI.out y hy
                  have h3 := HG2.out
                  simp at e h3
                  omega
                · intro i hi z hz y hy e
                  cases hy
                  have h2 := HGHI.out i hi z hz
                  have h3 := HG2.out
                  simp at e h3
                  omega
                · intro i hi z hz hs
                  by_cases e : i = j
                  · subst e
                    rw [HR.out] at hz hs ⊢
                    rw [HLN.out] at hz
                    rw [HEND.out z hz hs]
                    exact List.mem_append_right _ (List.mem_singleton.2 rfl)
                  · exact List.mem_append_left _ (hall.out i (by omega) z hz hs)
            · have hbn : (a == (m : Int) + 1) = false := by simp; omega
              go_wp2_with fail
              go_roundg (k - (j + 1))
              case measure => have := HK.out; omega
              case rel =>
                refine ⟨j + 1, gp, c2, pn, rp, _, _, by omega, rfl, rfl, by go_num, by omega, hown.out.then_ hbi, ?_, below_then (Nat.le_refl _) hbel hbi⟩
                intro i hi z hz hs
                by_cases e : i = j
                · subst e
                  rw [HR.out] at hz hs
                  rw [HLN.out] at hz
                  have e2 := HEND.out z hz hs
                  rw [e2, hsum.out] at hs
                  exact absurd hs hae
                · exact hall.out i (by omega) z hz hs
          · have hx2I : (l : Int) ≤ (x : Int) := by omega
            clear hy hgo
            by_cases hae : a = (m : Int) + 1
            · subst hae
              have hcl3 := hownc.out.len
              have HLR := Lib.hid hcl3
              have HT := Lib.hid ((hown.out.then_ hbi).alloc (.cells #[.slice (some ⟨g2, 0, none⟩) x c3] 43))
              have HLL := Lib.hid HT.out.list
              have HC := Lib.hid ((hownc.out.p.alloc (.cells #[.slice (some ⟨g2, 0, none⟩) x c3] 43)).mono hsz)
              have HB := Lib.hid (Blk.new wi 43 #[.slice (some ⟨g2, 0, none⟩) x c3])
              have HBASE := Lib.hid (show w6.heap.size ≤ (wi.alloc (.cells #[.slice (some ⟨g2, 0, none⟩) x c3] 43)).heap.size by simp; omega)
              have hBX := (below_then (Nat.le_refl _) hbel hbi).alloc (Nat.le_trans hsz hszi) (.cells #[.slice (some ⟨g2, 0, none⟩) x c3] 43)
              have HAHI := Lib.hid hown.out.blkA
              have HGHI := Lib.hid hown.out.blkG
              have HG2 := Lib.hid (hownc.out.p.blk ⟨g2, 0, none⟩ rfl)
              clear hcl3
              go_wp2_with (at_builtin; (refine wpList_append_one_at _ rfl _ _ 31 rfl w6.heap.size 43 i0 _ 1 24 Try.underlying31 ii iz0 iz1 iz2 rfl (by omega) (some ⟨gp, 0, none⟩) pn c2 (outs rp pn Gp cq) rfl HLL.out wi.heap.size [.slice (some ⟨g2, 0, none⟩) x c3] rfl rfl HB.out (by simp [Value.oneCell']) (by omega) (by omega) HBASE.out ?_); intro g7 c7 w7 hown7 hgr7 hat7; (have HO7 := Lib.hid hown7); (have HG7 := Lib.hid hgr7); (have HA7 := Lib.hid hat7); (have hB7 := hBX.grown hgr7 hBX.size (fun k hk => (HLL.out.lt k hk).1)); clear hown7 hgr7 hat7)
              go_roundg (k - (j + 1))
              case measure => have := HK.out; omega
              case rel =>
                refine ⟨j + 1, g7, c7, pn + 1, rp ++ [r.take x], _, _, by omega, rfl, rfl, by go_num, by omega, TabOwn.snoc HT.out HLR.out HC.out ?_ ?_ HO7.out HG7.out HA7.out, ?_, hB7⟩
                · intro z hz y hy e
                  cases hz
                  have h2 := HAHI.out y hy
                  have h3 := HG2.out
                  simp at e h3
                  omega
                · intro i hi z hz y hy e
                  cases hy
                  have h2 := HGHI.out i hi z hz
                  have h3 := HG2.out
                  simp at e h3
                  omega
                · intro i hi z hz hs
                  by_cases e : i = j
                  · subst e
                    rw [HR.out] at hz hs ⊢
                    rw [HLN.out] at hz
                    rw [HEND.out z hz hs]
                    exact List.mem_append_right _ (List.mem_singleton.2 rfl)
                  · exact List.mem_append_left _ (hall.out i (by omega) z hz hs)
            · have hbn : (a == (m : Int) + 1) = false := by simp; omega
              go_wp2_with fail
              go_roundg (k - (j + 1))
              case measure => have := HK.out; omega
              case rel =>
                refine ⟨j + 1, gp, c2, pn, rp, _, _, by omega, rfl, rfl, by go_num, by omega, hown.out.then_ hbi, ?_, below_then (Nat.le_refl _) hbel hbi⟩
                intro i hi z hz hs
                by_cases e : i = j
                · subst e
                  rw [HR.out] at hz hs
                  rw [HLN.out] at hz
                  have e2 := HEND.out z hz hs
                  rw [e2, hsum.out] at hs
                  exact absurd hs hae
                · exact hall.out i (by omega) z hz hs
    · have ej : j = k := by omega
      subst ej
      have hTr := HT6.out.then_ hbel
      have o26 := HO26.out.then_ hbel
      have o6 := HO6.out.then_ hbel
      have hBr := below_then (Nat.le_refl _) hB46 hbel
      have hlen : ((L.take (m + 1)).set m (y - 1)).length = m + 1 := by rw [List.length_set, List.length_take, HQ.out]; omega
      have hf1 : fitsV rs L = true := by rw [HLC.out]; exact cols_fit HTAB.out
      have hf2 : fitsV rp ((L.take (m + 1)).set m (y - 1)) = false := by
        have h1 := cols_less HTAB.out hmq (ps := rp) (fun r hr x hx hs => by
          obtain ⟨i, hi, e⟩ := List.mem_iff_getElem.1 hr
          have e2 : rl rs i = r := by rw [rl, List.getD_eq_getElem?_getD, List.getElem?_eq_getElem hi, Option.getD_some, e]
          have := hall.out i (by rw [← HRN.out]; exact hi) x (by rw [e2]; exact hx) (by rw [e2]; exact hs)
          rwa [e2] at this)
        rwa [← HLC.out, HY.out] at h1
      have HF1 := Lib.hid hf1
      have HF2 := Lib.hid hf2
      have HLEN := Lib.hid hlen
      have hcl := own_cap o6
      have hc26 := own_cap o26
      clear hf1 hf2 hlen
      go_wp2_with fail
      ((with_reducible refine (fits_i _ _ _ _ _ _ rs L _ HQ.out hqx ⟨hc26.1, hc26.2.1⟩ hkx ?_ ?_).mono ?_); (exact o26.row); (exact hTr.tab); rintro e w7 ⟨rfl, hb7⟩)
      rw [HF1.out]
      have hown7 := hown.out.then_ hb7
      have o67 := o6.then_ hb7
      have hB7 := below_then (Nat.le_refl _) hBr hb7
      go_wp2_with fail
      ((with_reducible refine (fits_i _ _ _ _ _ _ rp _ _ HLEN.out (by omega) ⟨hcl.1, hcl.2.1⟩ (by omega) ?_ ?_).mono ?_); (exact o67.row); (exact hown7.r.tab); rintro e w8 ⟨rfl, hb8⟩)
      rw [HF2.out]
      go_wp2_with fail
      go_returns
      exact ⟨rfl, below_then (Nat.le_refl _) hB7 hb8⟩
end Go.Proofs.Ytbkhimdebpllcaa
