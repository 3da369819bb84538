/- ColumnWidths of the program is what the plain function says. Conditions: the slice reads as a table. -/
import Derived.Test.YtbkhimdebpllcaaColsP
import Derived.Shelf.Abstract
import Derived.Deep.LoopGhost
namespace Go.Proofs.Ytbkhimdebpllcaa
open Go.RowKit Go.Shelf

attribute [local go_sem] Oper.semAt_some

set_option maxRecDepth 100000 in
set_option maxHeartbeats 8000000 in
theorem columnWidths_i (A : Option Addr) (nr cap : Nat) (n : Int) (rs : List (List Cl)) (w : World) (hmr : nr ≤ maxLen) (hT : Tab w w.heap.size A nr rs) :
    Calls Try.prog 27 #[.slice A nr cap, .int .i64 n] w (IntsOut w (colsV rs n)) := by
  rcases hok : tabOk rs n with _ | _
  · have HE := Lib.hid (show colsV rs n = [] by rw [colsV, hok]; rfl)
    have HOK := Lib.hid hok
    clear hok
    go_enter Try.func27, Try.ntmps27
    go_wp2_with fail
    ((with_reducible refine (validTable_i _ _ _ _ rs _ hmr ?_).mono ?_); (exact hT); rintro e w1 ⟨rfl, hb1⟩)
    rw [HOK.out]
    go_wp2_with fail
    go_ret
    show IntsOut w (colsV rs n) _ _
    rw [HE.out]
    exact ⟨none, 0, rfl, ownI_none _ _, hb1⟩
  obtain ⟨⟨n1, n8⟩, h10', _⟩ := tabOk_iff hok
  obtain ⟨m, rfl⟩ : ∃ m : Nat, n = (m : Int) := Int.eq_ofNat_of_zero_le (by omega)
  obtain ⟨N, hN⟩ : ∃ N : Nat, N = m + 1 := ⟨_, rfl⟩
  have hnN : IntKind.i64.wrap ((m : Int) + 1) = (N : Int) := by rw [show (m : Int) + 1 = (N : Int) by omega]; exact IntWalk.i64_in _ (by omega)
  have hN9 : 1 ≤ N ∧ N ≤ 9 := by omega
  obtain ⟨hN1, hN9⟩ := hN9
  have hm8 : m ≤ 8 := by omega
  have hm1 : 1 ≤ m := by omega
  have hnr : nr ≤ 10 := by have := hT.len; omega
  have HNN := Lib.hid hN
  obtain ⟨F, hF⟩ : ∃ F, cw (spans rs) m = F := ⟨_, rfl⟩
  have hFl : F.length = m := by rw [← hF, cw_len]
  have hval : colsV rs (m : Int) = F := by rw [colsV, hok, ← hF]; rfl
  have hBl : (bords F).length = N := by rw [bords_len, hFl, hN]
  have hsp := spans_rng hok
  have hsw : ∀ s ∈ spans rs, 0 ≤ s.w ∧ s.w ≤ 1000 := fun s hs => (hsp s hs).2.2.2
  have hFb : ∀ x ∈ F, 0 ≤ x ∧ x ≤ 1000 := by rw [← hF]; exact cw_b hsw m
  have HF := Lib.hid hF
  have HFL := Lib.hid hFl
  have HBL := Lib.hid hBl
  have HFB := Lib.hid hFb
  have HSW := Lib.hid hsw
  have HVAL := Lib.hid hval
  have HOK := Lib.hid hok
  have HT := Lib.hid hT
  obtain ⟨i0, hi, hz0, hz1, hz2⟩ := info_parts int_info
  have hmk1 := make_n (P := Try.prog) 22 3 i0 _ Try.underlying22 hi hz0 N (by rw [hz2]; omega) (by omega)
  have hmk2 := make_n (P := Try.prog) 22 3 i0 _ Try.underlying22 hi hz0 m (by rw [hz2]; omega) (by omega)
  rw [hz1] at hmk1 hmk2
  clear hok hval hT hN hF hFl hBl hsp hsw hFb n1 n8 h10'
  refine (callsIn_wide (n := 9)).1 ?_
  refine callsIn_of_wp_marks Try.func27 rfl trivial ?_ rfl
  simp only [Try.ntmps27, List.size_toArray, List.length_cons, List.length_nil, Nat.reduceAdd, Nat.reduceSub, Array.replicate_succ, Array.replicate_zero, List.push_toArray, List.append_toArray, List.nil_append, List.cons_append]
  refine wpIn_wide.2 ?_
  go_wp2_with fail
  ((with_reducible refine (validTable_i _ _ _ _ rs _ hmr ?_).mono ?_); (exact HT.out); rintro e w1 ⟨rfl, hb1⟩)
  rw [HOK.out]
  go_wp2_with fail
  rename_i K1 hK1
  have HK1 := Lib.hid hK1
  clear hK1
  have hs1 := hb1.size
  obtain ⟨W0, hW0⟩ : ∃ W0, (((w1.alloc (.cells (madeCells #[(.int .i64 0 : Value)] N) 3)).alloc (.cells #[.slice (some ⟨w1.heap.size, 0, none⟩) N N] 22)).alloc (.cells (madeCells #[(.int .i64 0 : Value)] m) 3)).alloc (.cells #[.slice (some ⟨w1.heap.size + 2, 0, none⟩) m m] 22) = W0 := ⟨_, rfl⟩
  have hC0 : Cols w w1.heap.size N m (fillI (bords F) 1 N) (fillI F 0 m) [] W0 := by
    rw [← hW0]
    have o1 := made_own w1 (.int .i64 0) N (by unfold maxLen; omega) 3 rfl
    have o1' : OwnI (w1.alloc (.cells (madeCells #[(.int .i64 0 : Value)] N) 3)) w1.heap.size (some ⟨w1.heap.size, 0, none⟩) N N (fillI (bords F) 1 N) := by
      rw [← fillI_set HBL.out hN1 (bords_at (Nat.zero_le _)), fillI_zero, List.take_zero, set_same (List.length_replicate ..) hN1 (by rw [List.getD_eq_getElem?_getD, List.getElem?_replicate, if_pos (show 0 < N by omega)]; rfl)]
      simpa [OwnI, inl, Value.cells] using o1
    have b1 := Blk.new_at (w1.alloc (.cells (madeCells #[(.int .i64 0 : Value)] N) 3)) 22 #[.slice (some ⟨w1.heap.size, 0, none⟩) N N] (w1.heap.size + 1) (by simp)
    have o2 := made_own ((w1.alloc (.cells (madeCells #[(.int .i64 0 : Value)] N) 3)).alloc (.cells #[.slice (some ⟨w1.heap.size, 0, none⟩) N N] 22)) (.int .i64 0) m (by unfold maxLen; omega) 3 rfl
    have o2' : OwnI (((w1.alloc (.cells (madeCells #[(.int .i64 0 : Value)] N) 3)).alloc (.cells #[.slice (some ⟨w1.heap.size, 0, none⟩) N N] 22)).alloc (.cells (madeCells #[(.int .i64 0 : Value)] m) 3)) (w1.heap.size + 2) (some ⟨w1.heap.size + 2, 0, none⟩) m m (fillI F 0 m) := by
      rw [fillI_zero]
      simpa [OwnI, inl, Value.cells] using o2
    have b2 := Blk.new_at (((w1.alloc (.cells (madeCells #[(.int .i64 0 : Value)] N) 3)).alloc (.cells #[.slice (some ⟨w1.heap.size, 0, none⟩) N N] 22)).alloc (.cells (madeCells #[(.int .i64 0 : Value)] m) 3)) 22 #[.slice (some ⟨w1.heap.size + 2, 0, none⟩) m m] (w1.heap.size + 3) (by simp)
    exact ⟨(((o1'.alloc _).alloc _).alloc _).mono hs1, (o2'.alloc _).mono (by omega), (b1.alloc _).alloc _, b2, ⟨List.nodup_nil, fun D hD => by cases hD⟩, by (repeat' (first | (with_reducible exact Below.refl _ _) | (with_reducible assumption) | (with_reducible refine Below.alloc ?_ ?_ _) | (with_reducible refine Below.drew ?_) | (with_reducible refine below_drewN ?_ _) | (with_reducible refine Below.setCell ?_ ?_ _) | (with_reducible refine below_then ?_ ?_ (by with_reducible assumption)) | (with_reducible exact Nat.le_refl _) | go_size | (simp only [*]; done)))⟩
  have HC0 := Lib.hid hC0
  rw [← hW0] at HC0
  clear hC0 hW0 hmk1 hmk2

  refine wp_loop_ghost_k (fun k a' W' => ∃ (c : Nat) (Ds : List Nat) (u7 u8 u21 u22 u23 u24 u25 u26 u27 u28 u29 u30 u31 u32 u33 u34 u35 u36 u37 u38 u39 u40 u41 u42 u43 u44 u45 u46 u47 u48 u49 u50 u51 u52 u53 u54 u55 u56 u57 u58 u59 u60 u61 u62 u63 u64 u65 : Value), a' = { tmps := #[.slice A nr cap, .int .i64 (m : Int), undef, undef, .slice none 0 0, .pointer (some ⟨w1.heap.size + 1, 0, none⟩), .pointer (some ⟨w1.heap.size + 2 + 1, 0, none⟩), u7, u8, .slice A nr cap, .int .i64 (m : Int), .bool true, .bool false, .int .i64 (m : Int), .int .i64 (N : Int), .slice (some ⟨w1.heap.size, 0, none⟩) N N, .int .i64 (m : Int), .slice (some ⟨w1.heap.size + 2, 0, none⟩) m m, .slice (some ⟨w1.heap.size + 2, 0, none⟩) m m, .int .i64 (m : Int), .int .i64 (c : Int), u21, u22, u23, u24, u25, u26, u27, u28, u29, u30, u31, u32, u33, u34, u35, u36, u37, u38, u39, u40, u41, u42, u43, u44, u45, u46, u47, u48, u49, u50, u51, u52, u53, u54, u55, u56, u57, u58, u59, u60, u61, u62, u63, u64, u65, undef], defers := dfs Ds } ∧ c ≤ m ∧ k = m - c ∧ Cols w w1.heap.size N m (fillI (bords F) (c + 1) N) (fillI F c m) Ds W') m ?_ ?_
  · exact ⟨0, [], _, _, _, _, _, _, _, _, _, _, _, _, _, _, _, _, _, _, _, _, _, _, _, _, _, _, _, _, _, _, _, _, _, _, _, _, _, _, _, _, _, _, _, _, _, _, _, rfl, Nat.zero_le _, rfl, HC0.out⟩
  · rintro gk a wr ⟨c, Ds, u7, u8, u21, u22, u23, u24, u25, u26, u27, u28, u29, u30, u31, u32, u33, u34, u35, u36, u37, u38, u39, u40, u41, u42, u43, u44, u45, u46, u47, u48, u49, u50, u51, u52, u53, u54, u55, u56, u57, u58, u59, u60, u61, u62, u63, u64, u65, rfl, hcm, hk, hcols⟩ J K hJ hK
    have HK := Lib.hid hk
    have HKK := Lib.hid hK
    have HJJ := Lib.hid hJ
    have HCC := Lib.hid hcols
    have hwz := hcols.bel.size
    have hmrk := hcols.mrk
    have HMR := Lib.hid hmrk
    have he3 := hcols.vw.lt
    clear hk hK hJ hcols hmrk
    by_cases hc : c < m
    · have hcI : (c : Int) < (m : Int) := by omega
      go_wp2_with fail
      ((with_reducible refine (spansOf_i _ _ _ _).mono ?_); rintro e w3 ⟨rfl, rfl⟩)
      go_wp2_with fail
      rename_i K2 hK2
      have HK2 := Lib.hid hK2
      clear hK2
      obtain ⟨Wi, hWi⟩ : ∃ Wi, (wr.alloc (.cells #[.int .i64 (c : Int)] 3)).alloc (.cells #[.slice A nr cap] 31) = Wi := ⟨_, rfl⟩
      have hbw : Below wr.heap.size wr Wi := by rw [← hWi]; exact ((Below.refl _ _).alloc (Nat.le_refl _) _).alloc (by simp) _
      have hBs : Blk Wi (wr.heap.size + 1) 31 #[.slice A nr cap] := by rw [← hWi]; exact Blk.new_at _ _ _ _ (by simp)
      have hBc : Blk Wi wr.heap.size 3 #[.int .i64 (c : Int)] := by rw [← hWi]; exact (Blk.new wr 3 #[.int .i64 (c : Int)]).alloc _
      have hci := HCC.out.then_ hbw
      have hTi : Tab Wi w.heap.size A nr rs := HT.out.below hci.bel
      have hle : w.heap.size ≤ Wi.heap.size := hci.bel.size
      have hDs : ∀ D ∈ Ds, D < Wi.heap.size := fun D hD => hci.mrk.lt hD
      have hsi := hBs.lt
      rw [hWi]
      have HWI := Lib.hid hWi
      clear hWi
      refine (wpIn_wide (n := 9)).1 ?_
      refine wpIn_rangeFunc_ownH rfl (show 1 ≤ 9 by omega) (gf := 54) (lb := #[.pointer (some ⟨wr.heap.size + 1, 0, none⟩)]) rfl trivial (enters_of Try.func54 (by kernel_rfl) rfl)
        (spans_stops (m : Int) 8 w.heap.size (wr.heap.size + 1) nr cap A rs HOK.out Wi hBs.lt hle (by omega) (hBs.cell 0) hTi) (fun h k => KC.t h k) (fun W l o o' => KC.b hle W l o o') (Below.refl _ _) (fun _ => rfl)
        (fun pre W => Cols w w1.heap.size N m (fillI (bords F) (c + 1) N) ((fillI F c m).set c (cwW (pre.map Subtype.val) (F.take c))) Ds W ∧ Blk W wr.heap.size 3 #[.int .i64 (c : Int)])
        (fun _ _ _ => False)
        (fun s A B row hs hg hr => ⟨Cols.own hDs hle hs.1 hg hr, blk_kept hs.2 hg (fun r e => (hr r e).2)⟩)
        (fun _ _ _ _ _ hs _ _ => hs)
        ⟨by rw [show cwW (([] : List (SpN (m : Int))).map Subtype.val) (F.take c) = 0 from rfl, set_same (fillI_len HFL.out hcm) hc (fillI_rest HFL.out hc)]; exact hci, hBc⟩
        (fun x a' W => ∃ Bx, wr.heap.size < Bx ∧ Blk W Bx 64 #[.int .i64 x.1.f, .int .i64 x.1.t, .int .i64 x.1.w] ∧ a' = { tmps := #[.slice A nr cap, .int .i64 (m : Int), undef, undef, .slice none 0 0, .pointer (some ⟨w1.heap.size + 1, 0, none⟩), .pointer (some ⟨w1.heap.size + 2 + 1, 0, none⟩), .pointer (some ⟨wr.heap.size, 0, none⟩), .pointer (some ⟨Bx, 0, none⟩), .slice A nr cap, .int .i64 (m : Int), .bool true, .bool false, .int .i64 (m : Int), .int .i64 (N : Int), .slice (some ⟨w1.heap.size, 0, none⟩) N N, .int .i64 (m : Int), .slice (some ⟨w1.heap.size + 2, 0, none⟩) m m, .slice (some ⟨w1.heap.size + 2, 0, none⟩) m m, .int .i64 (m : Int), .int .i64 (c : Int), .bool true, .int .i64 (c : Int), .slice A nr cap, .func (.func 54) #[] #[.pointer (some ⟨wr.heap.size + 1, 0, none⟩)], .agg #[.int .i64 x.1.f, .int .i64 x.1.t, .int .i64 x.1.w], u26, u27, u28, u29, u30, u31, u32, u33, u34, u35, u36, u37, u38, u39, u40, u41, u42, u43, u44, u45, u46, u47, u48, u49, u50, u51, u52, u53, u54, u55, u56, u57, u58, u59, u60, u61, u62, u63, u64, u65, undef], defers := [] })
        (fun x a' => Own.from (fun s A B row hs hg hr => by obtain ⟨Bx, h1, h2, h3⟩ := hs; exact ⟨Bx, h1, blk_kept h2 hg hr, h3⟩) _) ?assign ?body ?done ?stop
      case assign =>
        rintro l pre ⟨⟨xf, xt, xw⟩, x0, x1, x2, x3, x4⟩ W K ⟨hcl, hbc⟩ hK
        dsimp only [encS]
        gi_wp2
        have hWW : Below W.heap.size W (W.alloc (.cells #[.int .i64 xf, .int .i64 xt, .int .i64 xw] 64)) := (Below.refl _ _).alloc (Nat.le_refl _) _
        exact hK _ _ (KeepsFrom.of_below hWW) (KC.of_below hWW hcl.bel.size) ⟨hcl.then_ hWW, hbc.then_ hWW⟩ ⟨W.heap.size, hbc.lt, Blk.new _ _ _, rfl⟩
      case body =>
        rintro l pre ⟨⟨xf, xt, xw⟩, x0, x1, x2, x3, x4⟩ a' W hl ⟨r, hlr⟩ ⟨hcl, hbc⟩ ⟨Bx, hBx, bX, rfl⟩ hlen
        have hbcl := hbc.lt
        have hbxl := bX.lt
        have hel := hcl.vw.lt
        have y1 : xf < xt := x1
        have y2 : xt ≤ (m : Int) := x2
        have y3 : 0 ≤ xw := x3
        have y4 : xw ≤ 1000 := x4
        obtain ⟨fk, rfl⟩ := Int.eq_ofNat_of_zero_le x0
        obtain ⟨tk, rfl⟩ : ∃ tk : Nat, xt = (tk : Int) := Int.eq_ofNat_of_zero_le (by omega)
        have hFc : (F.take c).length = c := by rw [List.length_take, HFL.out]; omega
        have hFtb : ∀ x ∈ F.take c, 0 ≤ x ∧ x ≤ 1000 := fun x hx => HFB.out x (List.mem_of_mem_take hx)
        obtain ⟨v, hv⟩ : ∃ v, cwW (pre.map Subtype.val) (F.take c) = v := ⟨_, rfl⟩
        have hvb := cwW_b (ss := pre.map Subtype.val) hFtb (fun s hs => by rw [List.mem_map] at hs; obtain ⟨z, _, rfl⟩ := hs; exact z.2.2.2.2)
        rw [hv] at hcl hvb
        obtain ⟨v0, v1⟩ := hvb
        have hnew : cwW ((pre ++ ([⟨⟨(fk : Int), (tk : Int), xw⟩, x0, x1, x2, x3, x4⟩] : List (SpN (m : Int)))).map Subtype.val) (F.take c) = if tk = c + 1 then max v (xw - ((F.take c).drop fk).sum) else v := by
          rw [List.map_append]
          show cwW (pre.map Subtype.val ++ [⟨(fk : Int), (tk : Int), xw⟩]) (F.take c) = _
          rw [cwW_snoc, hv, cwU, hFc]
          by_cases h : tk = c + 1
          · rw [if_pos h, if_pos (by show (tk : Int) = (c : Int) + 1; omega)]
            rfl
          · rw [if_neg h, if_neg (by show ¬ (tk : Int) = (c : Int) + 1; omega)]
        have HNEW := Lib.hid hnew
        have HCL := Lib.hid hcl
        have HBC := Lib.hid hbc
        have b6 := hcl.vw
        have b5 := hcl.vb
        dsimp only
        clear hnew hv hlr hFtb
        by_cases hq : tk = c + 1
        · subst hq
          have hfc : (fk : Int) ≤ (c : Int) := by omega
          have hfN : (fk : Int) < (N : Int) := by have := HNN.out; omega
          have hcN : (c : Int) < (N : Int) := by have := HNN.out; omega
          obtain ⟨P, hP⟩ : ∃ P, (F.take c).sum = P := ⟨_, rfl⟩
          obtain ⟨R, hR⟩ : ∃ R, (F.take fk).sum = R := ⟨_, rfl⟩
          have hPb := sum_nonneg' (l := F.take c) fun x hx => HFB.out x (List.mem_of_mem_take hx)
          have hRb := sum_nonneg' (l := F.take fk) fun x hx => HFB.out x (List.mem_of_mem_take hx)
          have hPR := sum_take_drop F fk c (by omega)
          rw [List.length_take, HFL.out, hP] at hPb
          rw [List.length_take, HFL.out, hR] at hRb
          rw [hP, hR] at hPR
          have hPb8 : 0 ≤ P ∧ P ≤ 8000 := by omega
          have hRb8 : 0 ≤ R ∧ R ≤ 8000 := by omega
          obtain ⟨p0, p1⟩ := hPb8
          obtain ⟨r0, r1'⟩ := hRb8
          clear hPb hRb
          have r1 := hcl.ow.cellI hc
          rw [List.getD_eq_getElem?_getD, List.getElem?_set, if_pos rfl, if_pos (by rw [fillI_len HFL.out hcm]; exact hc)] at r1
          have r2 := hcl.ob.cellI (j := c) (by omega)
          rw [fillI_at HBL.out (by omega) (by omega), bords_at (by rw [HFL.out]; omega), hP] at r2
          have r3 := hcl.ob.cellI (j := fk) (by omega)
          rw [fillI_at HBL.out (by omega) (by omega), bords_at (by rw [HFL.out]; omega), hR] at r3
          have r4 := hcl.ow.frozenAt c
          simp only [Option.getD_some] at r1
          have hn2 : cwW ((pre ++ ([⟨⟨(fk : Int), ((c + 1 : Nat) : Int), xw⟩, x0, x1, x2, x3, x4⟩] : List (SpN (m : Int)))).map Subtype.val) (F.take c) = max v (xw - (P - R)) := by rw [HNEW.out, if_pos rfl, hPR]
          have HN2 := Lib.hid hn2
          clear hPR hP hR hn2
          have X1 := Lib.hid r1
          have X2 := Lib.hid r2
          have X3 := Lib.hid r3
          have X4 := Lib.hid r4
          clear r1 r2 r3 r4
          have bXX := Lib.hid bX
          have B5 := Lib.hid b5
          have B6 := Lib.hid b6
          have xlt := bX.lt
          have xc0 := bX.cell 0; have xf0 := bX.frozen 0
          have xc1 := bX.cell 1; have xf1 := bX.frozen 1
          have xc2 := bX.cell 2; have xf2 := bX.frozen 2
          simp only [List.getElem?_toArray, List.getElem?_cons_zero, List.getElem?_cons_succ] at xc0 xc1 xc2
          have klt := hbc.lt
          have kc0 := hbc.cell 0; have kf0 := hbc.frozen 0
          simp only [List.getElem?_toArray, List.getElem?_cons_zero] at kc0
          gi_wp2
          clear xlt xc0 xc1 xc2 xf0 xf1 xf2 klt kc0 kf0
          refine round_quiet_tail (fun w' => w' = W.drew) 21 (by kernel_rfl) (by kernel_rfl) (by kernel_rfl) rfl ?_
          simp only [List.take_succ_cons, List.take_zero, List.drop_succ_cons, List.drop_zero]
          generalize (List.toArray _ : Array Oper) = OPS
          have g1 : W.drew.cell? ⟨w1.heap.size + 2, c, none⟩ = _ := X1.out
          have g2 : W.drew.cell? ⟨w1.heap.size, c, none⟩ = _ := X2.out
          have g3 : W.drew.cell? ⟨w1.heap.size, fk, none⟩ = _ := X3.out
          have g4 : W.drew.frozen? ⟨w1.heap.size + 2, c, none⟩ = _ := X4.out
          have g5 := B5.out.drew
          have g6 := B6.out.drew
          have g7 := bXX.out.drew
          have g8 := HBC.out.drew
          have dlt := g5.lt
          have dc0 := g5.cell 0; have df0 := g5.frozen 0
          simp only [List.getElem?_toArray, List.getElem?_cons_zero] at dc0
          have elt := g6.lt
          have ec0 := g6.cell 0; have ef0 := g6.frozen 0
          simp only [List.getElem?_toArray, List.getElem?_cons_zero] at ec0
          have xlt := g7.lt
          have xc0 := g7.cell 0; have xf0 := g7.frozen 0
          have xc1 := g7.cell 1; have xf1 := g7.frozen 1
          have xc2 := g7.cell 2; have xf2 := g7.frozen 2
          simp only [List.getElem?_toArray, List.getElem?_cons_zero, List.getElem?_cons_succ] at xc0 xc1 xc2
          have klt := g8.lt
          have kc0 := g8.cell 0; have kf0 := g8.frozen 0
          simp only [List.getElem?_toArray, List.getElem?_cons_zero] at kc0
          obtain ⟨V, hV⟩ : ∃ V : World, W.drew = V := ⟨_, rfl⟩
          rw [hV] at g1 g2 g3 g4 dlt dc0 df0 elt ec0 ef0 xlt xc0 xc1 xc2 xf0 xf1 xf2 klt kc0 kf0 ⊢
          iterate 21
            refine wpQuiet_step (fun K hK => ?_)
            rw [if_pos (by simp [Region.wanted])]
            apply Exists.intro
            refine ⟨fun w' hw' => ?_, hK _ ?_⟩
            · subst hw'
              go_simp
              first | (with_reducible rfl) | (exact ⟨rfl, rfl⟩)
            clear hK K
            conv => arg 6; simp only [Act.put, List.setIfInBounds_toArray, List.set_cons_succ, List.set_cons_zero]
          refine wpQuiet_nil ?_
          intro w5 hw5
          subst hw5
          gi_wp2
          all_goals
            subst hV
            refine ⟨(KeepsFrom.of_below ((Below.refl _ _).drew)).trans ((KeepsOthers.setCell _ _ _).from _), KC.t (KC.of_below ((Below.refl _ _).drew) HCL.out.bel.size) (KC.set (by show w.heap.size ≤ w1.heap.size + 2; omega) (by show w1.heap.size + 2 < Wi.heap.size; omega) _), ?_, HBC.out.drew.far (by show wr.heap.size ≠ w1.heap.size + 2; omega) _⟩
            show Cols w w1.heap.size N m _ ((fillI F c m).set c (cwW ((pre ++ ([⟨⟨(fk : Int), ((c + 1 : Nat) : Int), xw⟩, x0, x1, x2, x3, x4⟩] : List (SpN (m : Int)))).map Subtype.val) (F.take c))) Ds _
            have hz1 := (HCL.out.then_ ((Below.refl _ _).drew)).setW c v
            have hz2 := (HCL.out.then_ ((Below.refl _ _).drew)).setW c (xw - (P - R))
            rw [List.set_set] at hz1 hz2
            rw [HN2.out]
            first | (rw [Int.max_eq_left (show xw - (P - R) ≤ v by omega)]; exact hz1) | (rw [Int.max_eq_right (show v ≤ xw - (P - R) by omega)]; exact hz2)
        · have hqb : ((tk : Int) == (c : Int) + 1) = false := by simp; omega
          have xlt := bX.lt
          have xc0 := bX.cell 0; have xf0 := bX.frozen 0
          have xc1 := bX.cell 1; have xf1 := bX.frozen 1
          have xc2 := bX.cell 2; have xf2 := bX.frozen 2
          simp only [List.getElem?_toArray, List.getElem?_cons_zero, List.getElem?_cons_succ] at xc0 xc1 xc2
          have klt := hbc.lt
          have kc0 := hbc.cell 0; have kf0 := hbc.frozen 0
          simp only [List.getElem?_toArray, List.getElem?_cons_zero] at kc0
          gi_wp2
          refine ⟨KeepsFrom.refl _ _, KC.refl _ _ _, ?_, HBC.out⟩
          show Cols w w1.heap.size N m _ ((fillI F c m).set c (cwW ((pre ++ [_]).map Subtype.val) (F.take c))) Ds W
          rw [HNEW.out, if_neg hq]
          exact HCL.out
      case done =>
        rintro D ys W hD hys ⟨hcl, hbc⟩ hKD
        have hFc := cw_at (spans rs) hc
        rw [HF.out] at hFc
        have hct := cw_take (spans rs) (show c ≤ m by omega)
        rw [HF.out] at hct
        rw [hys, hct, ← hFc, fillI_set HFL.out hc rfl] at hcl
        obtain ⟨y, hy⟩ : ∃ y, F.getD c default = y := ⟨_, rfl⟩
        obtain ⟨P, hP⟩ : ∃ P, (F.take c).sum = P := ⟨_, rfl⟩
        have hPb := sum_nonneg' (l := F.take c) fun x hx => HFB.out x (List.mem_of_mem_take hx)
        rw [List.length_take, HFL.out, hP] at hPb
        have hyb := HFB.out y (mem_of_getD HFL.out hc hy)
        have hsum : (F.take (c + 1)).sum = P + y := by rw [tk_snoc' HFL.out hc hy, List.sum_append, hP]; simp
        have hset := fillI_set (j := c + 1) HBL.out (by have := HNN.out; omega) (by rw [bords_at (by rw [HFL.out]; omega), hsum])
        have r1 := hcl.ow.cellI hc
        rw [fillI_at HFL.out (by omega) (by omega), hy] at r1
        have r2 := hcl.ob.cellI (j := c) (by have := HNN.out; omega)
        rw [fillI_at HBL.out (by have := HNN.out; omega) (by omega), bords_at (by rw [HFL.out]; omega), hP] at r2
        obtain ⟨c1, hc1⟩ : ∃ c1, c + 1 = c1 := ⟨_, rfl⟩
        have wc : IntKind.i64.wrap ((c : Int) + 1) = (c1 : Int) := by rw [show (c : Int) + 1 = (c1 : Int) by omega]; exact IntWalk.i64_in _ (by omega)
        have r4 := hcl.ob.frozenAt c1
        have r5 := hcl.ob.cellI (j := c1) (by have := HNN.out; omega)
        obtain ⟨z, hz⟩ : ∃ z, (fillI (bords F) (c + 1) N).getD c1 default = z := ⟨_, rfl⟩
        rw [hz] at r5
        clear hz
        have hcl2 : Cols w w1.heap.size N m (fillI (bords F) (c + 1) N) (fillI F (c + 1) m) (D :: Ds) W := ⟨hcl.ob, hcl.ow, hcl.vb, hcl.vw, hcl.mrk.cons (fun D' hD' => Nat.lt_of_lt_of_le (hDs D' hD') hD) (Nat.le_trans hle hD) hKD, hcl.bel⟩
        have hcl3 := (hcl2.then_ ((Below.refl _ _).drew)).setB (c + 1) (P + y)
        rw [hset, hc1] at hcl3
        have HC3 := Lib.hid hcl3
        have HC1 := Lib.hid hc1
        have hcN : (c : Int) < (N : Int) := by have := HNN.out; omega
        have hcN1 : (c1 : Int) < (N : Int) := by have := HNN.out; omega
        have b6 := hcl.vw
        have b5 := hcl.vb
        clear hFc hct hsum hset hcl2 hcl3 hy hP hc1
        refine HK2.out _ _ ?_
        refine region_quiet_tail (fun w' => w' = W.drew) 13 (by kernel_rfl) (by kernel_rfl) rfl ?_
        simp only [List.take_succ_cons, List.take_zero, List.drop_succ_cons, List.drop_zero]
        generalize (List.toArray _ : Array Oper) = OPS
        have g1 : W.drew.cell? ⟨w1.heap.size + 2, c, none⟩ = _ := r1
        have g2 : W.drew.cell? ⟨w1.heap.size, c, none⟩ = _ := r2
        have g4 : W.drew.frozen? ⟨w1.heap.size, c1, none⟩ = _ := r4
        have g7 : W.drew.cell? ⟨w1.heap.size, c1, none⟩ = _ := r5
        have g5 := b5.drew
        have g6 := b6.drew
        have g8 := hbc.drew
        have dlt := g5.lt
        have dc0 := g5.cell 0; have df0 := g5.frozen 0
        simp only [List.getElem?_toArray, List.getElem?_cons_zero] at dc0
        have elt := g6.lt
        have ec0 := g6.cell 0; have ef0 := g6.frozen 0
        simp only [List.getElem?_toArray, List.getElem?_cons_zero] at ec0
        have klt := g8.lt
        have kc0 := g8.cell 0; have kf0 := g8.frozen 0
        simp only [List.getElem?_toArray, List.getElem?_cons_zero] at kc0
        obtain ⟨V, hV⟩ : ∃ V : World, W.drew = V := ⟨_, rfl⟩
        rw [hV] at g1 g2 g4 g7 dlt dc0 df0 elt ec0 ef0 klt kc0 kf0 ⊢
        obtain ⟨hyb0, hyb1⟩ := hyb
        have hPb8 : 0 ≤ P ∧ P ≤ 8000 := by omega
        obtain ⟨p0, p1⟩ := hPb8
        clear hPb
        iterate 13
          refine wpQuiet_step (fun K hK => ?_)
          rw [if_pos (by simp [Region.wanted])]
          apply Exists.intro
          refine ⟨fun w' hw' => ?_, hK _ ?_⟩
          · subst hw'
            go_simp
            first | (with_reducible rfl) | (exact ⟨rfl, rfl⟩)
          clear hK K
          conv => arg 6; simp only [Act.put, List.setIfInBounds_toArray, List.set_cons_succ, List.set_cons_zero]
        refine wpQuiet_nil ?_
        intro w5 hw5
        subst hw5
        go_wp2_with fail
        subst hV
        refine HKK.out _ _ ?_
        refine Handed.intro (m - c1) (by have := HK.out; have := HC1.out; omega) ?_
        exact HJJ.out _ _ _ ⟨c1, D :: Ds, _, _, _, _, _, _, _, _, _, _, _, _, _, _, _, _, _, _, _, _, _, _, _, _, _, _, _, _, _, _, _, _, _, _, _, _, _, _, _, _, _, _, _, _, _, _, _, rfl, by have := HC1.out; omega, rfl, HC3.out⟩
      case stop =>
        rintro D cc pre W _ _ h _
        exact h.elim
    · have ec : c = m := by omega
      subst ec
      have b6 := HCC.out.vw
      have plt := b6.lt
      have pc0 := b6.cell 0; have pf0 := b6.frozen 0
      simp only [List.getElem?_toArray, List.getElem?_cons_zero] at pc0
      go_wp2_with fail
      refine HK1.out _ _ ?_
      go_wp2_with fail
      have hJ0 : Cols w w1.heap.size N c (fillI (bords F) (c + 1) N) (fillI F c c) [] wr := ⟨HCC.out.ob, HCC.out.ow, HCC.out.vb, HCC.out.vw, ⟨List.nodup_nil, fun D hD => by cases hD⟩, HCC.out.bel⟩
      refine leaves_marks (n₀ := w.heap.size) (fun W' => Cols w w1.heap.size N c (fillI (bords F) (c + 1) N) (fillI F c c) [] W') (fun W' D h hn hD => h.put hn hD) ?_ Ds wr HMR.out hJ0
      intro W' h
      refine ⟨_, results_tmp rfl _ _ _, ?_⟩
      show IntsOut w (colsV rs (c : Int)) _ _
      rw [HVAL.out]
      exact ⟨some ⟨w1.heap.size + 2, 0, none⟩, c, by rw [HFL.out]; rfl, by rw [HFL.out]; exact h.ow.eq (fillI_full _ _ HFL.out), h.bel⟩
end Go.Proofs.Ytbkhimdebpllcaa
