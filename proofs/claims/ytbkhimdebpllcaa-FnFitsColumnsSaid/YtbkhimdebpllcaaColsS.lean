/- ColumnWidths of the reference is what the plain function says. Conditions: the slice reads as a table. -/
import Derived.Test.YtbkhimdebpllcaaFitsS
namespace Go.Proofs.Ytbkhimdebpllcaa
open Go.RowKit

theorem cwW_snoc (ss : List Sp) (out : List Int) (s : Sp) : cwW (ss ++ [s]) out = cwU out (cwW ss out) s := by simp [cwW, List.foldl_append]
theorem sum_nonneg' {l : List Int} (h : ∀ x ∈ l, 0 ≤ x ∧ x ≤ 1000) : 0 ≤ l.sum ∧ l.sum ≤ 1000 * (l.length : Int) := by
  have := sum_bound (l := l) (a := 0) (b := 1000) h
  omega
theorem cwU_b {out : List Int} {m : Int} {s : Sp} (ho : ∀ x ∈ out, 0 ≤ x ∧ x ≤ 1000) (hs : 0 ≤ s.w ∧ s.w ≤ 1000) (hm : 0 ≤ m ∧ m ≤ 1000) : 0 ≤ cwU out m s ∧ cwU out m s ≤ 1000 := by
  have := sum_nonneg' (l := out.drop s.f.toNat) fun x hx => ho x (List.mem_of_mem_drop hx)
  unfold cwU
  split <;> omega
theorem cwW_b {ss : List Sp} {out : List Int} (ho : ∀ x ∈ out, 0 ≤ x ∧ x ≤ 1000) (hs : ∀ s ∈ ss, 0 ≤ s.w ∧ s.w ≤ 1000) : 0 ≤ cwW ss out ∧ cwW ss out ≤ 1000 := by
  have key : ∀ (ss : List Sp) (m : Int), (∀ s ∈ ss, 0 ≤ s.w ∧ s.w ≤ 1000) → 0 ≤ m ∧ m ≤ 1000 → 0 ≤ ss.foldl (cwU out) m ∧ ss.foldl (cwU out) m ≤ 1000 := by
    intro ss
    induction ss with
    | nil => intro m _ hm; exact hm
    | cons s r ih => intro m hs hm; exact ih _ (fun x hx => hs x (List.mem_cons_of_mem _ hx)) (cwU_b ho (hs s (List.mem_cons_self ..)) hm)
  exact key ss 0 hs ⟨by omega, by omega⟩
theorem cw_b {ss : List Sp} (hs : ∀ s ∈ ss, 0 ≤ s.w ∧ s.w ≤ 1000) : ∀ c, ∀ x ∈ cw ss c, 0 ≤ x ∧ x ≤ 1000 := by
  intro c
  induction c with
  | zero => intro x hx; simp [cw] at hx
  | succ c ih =>
    intro x hx
    rw [cw, List.mem_append] at hx
    rcases hx with hx | hx
    · exact ih x hx
    · rw [List.mem_singleton] at hx
      rw [hx]
      exact cwW_b ih hs
theorem sm_b' {l : List Int} {f c : Nat} {s : Int} (h : ∀ x ∈ l, 0 ≤ x ∧ x ≤ 1000) (hl : l.length ≤ 8) (hs : sm l f c = s) : 0 ≤ s ∧ s ≤ 8000 := by
  have := sum_nonneg' (l := (l.take c).drop f) fun x hx => h x (List.mem_of_mem_take (List.mem_of_mem_drop hx))
  rw [sm] at hs
  rw [hs, List.length_drop, List.length_take] at this
  omega

set_option maxRecDepth 100000 in
set_option maxHeartbeats 8000000 in
theorem columnWidths_s (A : Option Addr) (nr cap n : Nat) (rs : List (List Cl)) (w : World) (htab : tabOk rs (n : Int) = true) (hT : Tab w w.heap.size A nr rs) :
    Calls Try.prog 46 #[.slice A nr cap, .int .i64 (n : Int)] w (IntsOut w (cw (spans rs) n)) := by
  have hsp := spans_rng htab
  obtain ⟨⟨n1, n8⟩, h10', _⟩ := tabOk_iff htab
  obtain ⟨hrn, As, cs, h2, h3⟩ := hT
  have h10 : nr ≤ 10 := by omega
  have hsw : ∀ s ∈ spans rs, 0 ≤ s.w ∧ s.w ≤ 1000 := fun s hs => (hsp s hs).2.2.2
  have HSP := Lib.hid hsp
  have HSW := Lib.hid hsw
  have HN := Lib.hid hrn
  have H3 := Lib.hid h3
  have hE := Lib.hid (Blk.new w 3 #[])
  have hB0 : Below w.heap.size w (w.alloc (.cells #[] 3)) := (Below.refl _ _).alloc (Nat.le_refl _) _
  obtain ⟨i0, hi, hz0, hz1, hz2⟩ := info_parts int_info
  clear hsp hsw hrn h3 htab h10'
  go_enter Try.func46, Try.ntmps46
  go_wp2_with fail
  go_loopg [5, 6] n (fun k o i wr => ∃ (c g cp : Nat), c ≤ n ∧ k = n - c ∧ i = .int .i64 (c : Int) ∧ o = .slice (some ⟨g, 0, none⟩) c cp ∧ Hid (OwnI wr w.heap.size (some ⟨g, 0, none⟩) c cp (cw (spans rs) c)) ∧ Below w.heap.size w wr)
  case atStart => exact ⟨0, w.heap.size, 0, Nat.zero_le _, rfl, rfl, rfl, owns_nil _ _ _ _ _ _ _ hE.out (Nat.le_refl _) (by unfold maxLen; omega) rfl, hB0⟩
  case round =>
    obtain ⟨c, g, cp, hcn, hk0, rfl, rfl, hown, hbel0⟩ := hrel
    have HK0 := Lib.hid hk0; clear hk0
    by_cases hc : c < n
    · have hcI : (c : Int) < (n : Int) := by omega
      obtain ⟨out, hout⟩ : ∃ out, cw (spans rs) c = out := ⟨_, rfl⟩
      have hol : out.length = c := by rw [← hout, cw_len]
      have hob : ∀ x ∈ out, 0 ≤ x ∧ x ≤ 1000 := by rw [← hout]; exact cw_b HSW.out c
      rw [hout] at hown
      have HOUT := Lib.hid hout
      have HOL := Lib.hid hol
      have HOB := Lib.hid hob
      clear hout hol hob
      go_wp2_with fail
      go_loopg [7, 8] nr (fun k wv i wj => ∃ (j : Nat) (m : Int), j ≤ nr ∧ k = nr - j ∧ i = .int .i64 (j : Int) ∧ wv = .int .i64 m ∧ (0 ≤ m ∧ m ≤ 1000) ∧ Hid (cwW (spans (rs.take j)) out = m) ∧ Hid (OwnI wj w.heap.size (some ⟨g, 0, none⟩) c cp out) ∧ Below w.heap.size w wj)
      case atStart => exact ⟨0, 0, Nat.zero_le _, rfl, rfl, rfl, ⟨by omega, by omega⟩, rfl, hown.out, hbel0⟩
      case round =>
        obtain ⟨j, m, hj, hk, rfl, rfl, ⟨m0, m1⟩, hm, hown1, hbel⟩ := hrel
        have HK := Lib.hid hk; clear hk
        by_cases hlt : j < nr
        · obtain ⟨b, off, rfl, hb, hcc⟩ := h2.at1 (by omega)
          have k0 := hcc j hlt
          obtain ⟨hlm, hi3⟩ := H3.out j hlt
          obtain ⟨x, hx⟩ : ∃ x, rl rs j = x := ⟨_, rfl⟩
          rw [hx] at k0 hlm hi3
          obtain ⟨q, hq⟩ : ∃ q, x.length = q := ⟨_, rfl⟩
          rw [hq] at k0 hlm hi3
          obtain ⟨C, hC⟩ : ∃ C, cs j = C := ⟨_, rfl⟩
          obtain ⟨D, hD⟩ : ∃ D, As j = D := ⟨_, rfl⟩
          rw [hC, hD] at k0
          rw [hD] at hi3
          unfold maxLen at hlm
          have HX : Hid (rs.getD j default = x) := hx
          have HQ := Lib.hid hq
          have HI := Lib.hid hi3
          have K0 := Lib.hid k0
          have hjn : (j : Int) < (nr : Int) := by omega
          clear hcc hx hq hC hD hi3 k0
          go_wp2_with fail
          go_loopg [7, 9, 10] q (fun kk wv a i wi => ∃ (p v : Nat) (m : Int), p ≤ q ∧ kk = q - p ∧ i = .int .i64 (p : Int) ∧ a = .int .i64 (v : Int) ∧ v ≤ 8 ∧ wv = .int .i64 m ∧ (0 ≤ m ∧ m ≤ 1000) ∧ Hid (sumS (x.take p) = (v : Int)) ∧ Hid (cwW (spans (rs.take j) ++ spR 0 (x.take p)) out = m) ∧ Hid (OwnI wi w.heap.size (some ⟨g, 0, none⟩) c cp out) ∧ Below w.heap.size w wi)
          case atStart => exact ⟨0, 0, m, Nat.zero_le _, rfl, rfl, rfl, by omega, rfl, ⟨m0, m1⟩, rfl, by rw [Hid]; simpa [spR] using hm.out, hown1.out, hbel⟩
          case round =>
            obtain ⟨p, v, m', hp, hk2, rfl, rfl, v1, rfl, ⟨m0', m1'⟩, hv, hpre, hown2, hbi⟩ := hrel
            have HK2 := Lib.hid hk2; clear hk2
            have hszi := hbi.size
            have c0 := (hbi.cell (p := ⟨b, off + j, none⟩) hb).trans K0.out
            by_cases hpl : p < q
            · obtain ⟨b', off', rfl, hb', hc2⟩ := HI.out (by omega)
              have k1 := hc2 p 0 hpl (by omega)
              have k2 := hc2 p 1 hpl (by omega)
              obtain ⟨y, hy⟩ : ∃ y, x.getD p default = y := ⟨_, rfl⟩
              simp only [clc, hy] at k1 k2
              have c1 : wr.cell? ⟨b', off' + p * 2, none⟩ = _ := (hbi.cell (p := ⟨b', off' + p * 2, none⟩) hb').trans k1
              have c2 : wr.cell? ⟨b', off' + p * 2 + 1, none⟩ = _ := (hbi.cell (p := ⟨b', off' + p * 2 + 1, none⟩) hb').trans k2
              obtain ⟨rest, hsplit⟩ := spans_split HN.out hlt HX.out (by rw [HQ.out]; exact hpl) hy
              rw [hv.out] at hsplit
              have hmem : (⟨v, v + y.s, y.w⟩ : Sp) ∈ spans rs := by rw [hsplit]; simp
              have hval := HSP.out _ hmem
              obtain ⟨z0, z1, z2, z3, z4⟩ := hval
              simp only at z0 z1 z2 z3 z4
              obtain ⟨sk, hsk⟩ : ∃ sk : Nat, y.s = (sk : Int) := Int.eq_ofNat_of_zero_le (by omega)
              have hnv : sumS (x.take (p + 1)) = ((v + sk : Nat) : Int) := by rw [tk_snoc' HQ.out hpl hy, sumS_snoc, hv.out, hsk]; omega
              have hnp : cwW (spans (rs.take j) ++ spR 0 (x.take (p + 1))) out = if v + sk = c + 1 then max m' (y.w - sm out v c) else m' := by
                rw [tk_snoc' HQ.out hpl hy, spR_snoc, hv.out, hsk, ← List.append_assoc, cwW_snoc, hpre.out, cwU]
                simp only [HOL.out, sm, List.take_of_length_le (l := out) (i := c) (by rw [HOL.out]; exact Nat.le_refl _)]
                by_cases h : v + sk = c + 1
                · rw [if_pos h, if_pos (by omega)]
                  simp
                · rw [if_neg h, if_neg (by omega)]
              rw [hsk] at c1 k1 z1 z2
              have HNV := Lib.hid hnv
              have HNP := Lib.hid hnp
              have hpq : (p : Int) < (q : Int) := by omega
              have hbox := Blk.new wr 46 #[.int .i64 (sk : Int), .int .i64 y.w]
              have HBOX := Lib.hid hbox
              have hown3 := OwnI.alloc hown2.out (.cells #[.int .i64 (sk : Int), .int .i64 y.w] 46)
              have hB3 := hbi.alloc hszi (.cells #[.int .i64 (sk : Int), .int .i64 y.w] 46)
              have HO3 := Lib.hid hown3
              clear hsplit hmem hy hc2 hnv hnp hsk k1 k2 hown3
              by_cases hlast : v + sk = c + 1
              · have hle : (v : Int) + (sk : Int) - 1 = (c : Int) := by omega
                have hleb : ((v : Int) + (sk : Int) - 1 == (c : Int)) = true := by simpa using hle
                have hnp2 := HNP.out
                rw [if_pos hlast] at hnp2
                have HNP2 := Lib.hid hnp2
                have hvc : v ≤ c := by omega
                clear hnp2 hle
                have xlt := hbox.lt
                have xc0 := hbox.cell 0; have xf0 := hbox.frozen 0
                have xc1 := hbox.cell 1; have xf1 := hbox.frozen 1
                simp only [List.getElem?_toArray, List.getElem?_cons_zero, List.getElem?_cons_succ] at xc0 xc1
                go_wp2_with fail
                go_loopg [12, 13] (c - v) (fun kk s i wc => ∃ (i' : Nat) (t : Int), v ≤ i' ∧ i' ≤ c ∧ kk = c - i' ∧ i = .int .i64 (i' : Int) ∧ s = .int .i64 t ∧ Hid (sm out v i' = t) ∧ wc = wr.alloc (.cells #[.int .i64 (sk : Int), .int .i64 y.w] 46))
                case atStart => exact ⟨v, 0, Nat.le_refl _, hvc, rfl, rfl, rfl, sm_none _ _, rfl⟩
                case round =>
                  obtain ⟨i', t, hi0, hi1, hk3, rfl, rfl, ht, hwc⟩ := hrel
                  have HK3 := Lib.hid hk3; clear hk3
                  obtain ⟨t0, t1⟩ := sm_b' HOB.out (by rw [HOL.out]; omega) ht.out
                  rw [← hwc] at HO3 HBOX hB3
                  have hbx3 := HBOX.out
                  have ylt := hbx3.lt
                  have yc0 := hbx3.cell 0; have yf0 := hbx3.frozen 0
                  have yc1 := hbx3.cell 1; have yf1 := hbx3.frozen 1
                  simp only [List.getElem?_toArray, List.getElem?_cons_zero, List.getElem?_cons_succ] at yc0 yc1
                  by_cases hil : i' < c
                  · obtain ⟨u, hu⟩ : ∃ u, out.getD i' default = u := ⟨_, rfl⟩
                    have d3 := HO3.out.cellI hil
                    rw [hu] at d3
                    have hub := HOB.out u (mem_of_getD HOL.out hil hu)
                    obtain ⟨u0, u1⟩ := hub
                    have hns : sm out v (i' + 1) = t + u := by rw [sm_snoc HOL.out hi0 hil hu, ht.out]
                    have HNS := Lib.hid hns
                    have HWC := Lib.hid hwc
                    clear hns hu hwc
                    go_wp2_with fail
                    go_roundg (c - (i' + 1))
                    case measure => have := HK3.out; omega
                    case rel => exact ⟨i' + 1, t + u, by omega, by omega, rfl, by go_num, rfl, HNS.out, HWC.out⟩
                  · have ei : i' = c := by omega
                    subst ei
                    rw [ht.out] at HNP2
                    clear hwc
                    rcases Int.le_total (y.w - t) m' with hmx | hmx
                    · rw [Int.max_eq_left hmx] at HNP2
                      go_wp2_with fail
                      all_goals
                        go_roundg (q - (p + 1))
                        case measure => have := HK2.out; omega
                        case rel => exact ⟨p + 1, v + sk, _, by omega, rfl, by go_num, by go_num, by omega, rfl, ⟨by omega, by omega⟩, HNV.out, by first | exact HNP2.out | (show _ = _; rw [HNP2.out]; omega), HO3.out, hB3⟩
                    · rw [Int.max_eq_right hmx] at HNP2
                      go_wp2_with fail
                      all_goals
                        go_roundg (q - (p + 1))
                        case measure => have := HK2.out; omega
                        case rel => exact ⟨p + 1, v + sk, _, by omega, rfl, by go_num, by go_num, by omega, rfl, ⟨by omega, by omega⟩, HNV.out, by first | exact HNP2.out | (show _ = _; rw [HNP2.out]; omega), HO3.out, hB3⟩
              · have hleb : ((v : Int) + (sk : Int) - 1 == (c : Int)) = false := by simp; omega
                have hnp2 := HNP.out
                rw [if_neg hlast] at hnp2
                have HNP2 := Lib.hid hnp2
                clear hnp2
                have xlt := hbox.lt
                have xc0 := hbox.cell 0; have xf0 := hbox.frozen 0
                have xc1 := hbox.cell 1; have xf1 := hbox.frozen 1
                simp only [List.getElem?_toArray, List.getElem?_cons_zero, List.getElem?_cons_succ] at xc0 xc1
                go_wp2_with fail
                go_roundg (q - (p + 1))
                case measure => have := HK2.out; omega
                case rel => exact ⟨p + 1, v + sk, m', by omega, rfl, by go_num, by go_num, by omega, rfl, ⟨m0', m1'⟩, HNV.out, HNP2.out, HO3.out, hB3⟩
            · have hnp : cwW (spans (rs.take (j + 1))) out = m' := by
                rw [tk_snoc' HN.out hlt HX.out, spans_snoc]
                have := hpre.out
                rwa [List.take_of_length_le (l := x) (i := p) (by rw [HQ.out]; omega)] at this
              have HNP := Lib.hid hnp
              clear hnp
              go_wp2_with fail
              go_roundg (nr - (j + 1))
              case measure => have := HK.out; omega
              case rel => exact ⟨j + 1, m', by omega, rfl, by go_num, rfl, ⟨m0', m1'⟩, HNP.out, hown2.out, hbi⟩
        · have hfin : cw (spans rs) (c + 1) = out ++ [m] := by
            rw [cw, HOUT.out]
            have := hm.out
            rw [List.take_of_length_le (by rw [HN.out]; omega)] at this
            rw [this]
          have HF := Lib.hid hfin
          have HO := Lib.hid (hown1.out.alloc (.cells #[.int .i64 m] 3))
          have HB := Lib.hid (Blk.new wr 3 #[.int .i64 m])
          have hbase : w.heap.size ≤ (wr.alloc (.cells #[.int .i64 m] 3)).heap.size := by have := hbel.size; simp; omega
          have hB3a := hbel.alloc hbel.size (.cells #[.int .i64 m] 3)
          clear hfin
          go_wp2_with (at_builtin; (refine wpList_append_one _ rfl _ _ 22 rfl w.heap.size 3 i0 _ 1 8 Try.underlying22 hi hz0 hz1 hz2 rfl (by omega) (some ⟨g, 0, none⟩) c cp (inl out) rfl HO.out wr.heap.size (inl [m]) rfl rfl HB.out (inl_one _) (by omega) (by omega) hbase ?_); intro g4 c4 w4 hown4 hgr4; (have HO4 := Lib.hid hown4); (have hB4 := hB3a.grown hgr4 hB3a.size (fun j hj => (HO.out.lt j hj).1)); clear hown4 hgr4)
          go_roundg (n - (c + 1))
          case measure => have := HK0.out; omega
          case rel => exact ⟨c + 1, g4, c4, by omega, rfl, by go_num, rfl, (by show World.ownsRow _ _ _ _ _ _ _; rw [HF.out, inl_snoc]; exact HO4.out), hB4⟩
    · have ej : c = n := by omega
      subst ej
      go_wp2_with fail
      go_ret
      exact ⟨some ⟨g, 0, none⟩, cp, by rw [cw_len]; rfl, by rw [cw_len]; exact hown.out, hbel0⟩
end Go.Proofs.Ytbkhimdebpllcaa
