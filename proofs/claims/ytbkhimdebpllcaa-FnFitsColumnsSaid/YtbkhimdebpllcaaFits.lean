/- FitsColumns of the program is what the plain function says. Conditions: the slices read as a table and as a list. -/
import Derived.Test.YtbkhimdebpllcaaSpans
import Derived.Test.YtbkhimdebpllcaaTabValid
import Derived.Test.YtbkhimdebpllcaaStretch
import Derived.Shelf.Abstract
namespace Go.Proofs.Ytbkhimdebpllcaa
open Go.RowKit Go.Shelf

attribute [local go_sem] Oper.semAt_some

theorem spansOf_i (A : Option Addr) (n c : Nat) (w : World) :
    Calls Try.prog 45 #[.slice A n c] w fun e w' => e = .returned (.func (.func 54) #[] #[.pointer (some ⟨w.heap.size, 0, none⟩)]) ∧ w' = w.alloc (.cells #[.slice A n c] 31) := by
  go_enter Try.func45, Try.ntmps45
  go_wp2
  go_ret
  exact ⟨rfl, rfl⟩
theorem blk_kept {A B : World} {row : Option Nat} {g : Nat} {t : TypeId} {cs : Array Value} (h : Blk A g t cs) (hg : A.grownBy B row) (hr : ∀ r, row = some r → ∃ o : Obj, A.heap[r]? = some o ∧ o.isCells = false) : Blk B g t cs := by
  refine (hg.block g h.lt (fun e => ?_)).trans h
  obtain ⟨o, ho, hc⟩ := hr g e.symm
  unfold Blk at h
  rw [h] at ho
  cases ho
  cases hc

theorem fits_no1 {rs : List (List Cl)} {ws : List Int} (h : colsOk ws = false) : fitsV rs ws = false := by
  have : wsOk ws = false := h
  simp [fitsV, this]
theorem fits_no2 {rs : List (List Cl)} {ws : List Int} {n : Nat} (hn : ws.length = n) (h : tabOk rs (n : Int) = false) : fitsV rs ws = false := by
  simp [fitsV, hn, h]
theorem fits_yes {rs : List (List Cl)} {ws : List Int} {n : Nat} (hn : ws.length = n) (h1 : colsOk ws = true) (h2 : tabOk rs (n : Int) = true) : fitsV rs ws = fitsP (spans rs) ws := by
  have : wsOk ws = true := h1
  simp [fitsV, this, hn, h2]
theorem cols_sub {ws : List Int} {f t n : Nat} (hn : ws.length = n) (h : colsOk ws = true) (hf : f < t) (ht : t ≤ n) : colsOk ((ws.take t).drop f) = true := by
  have hl := cols_len h
  simp only [colsOk, Bool.and_eq_true, List.all_eq_true] at h ⊢
  refine ⟨fun x hx => h.1 x (List.mem_of_mem_take (List.mem_of_mem_drop hx)), inR_iff.2 ?_⟩
  rw [List.length_drop, List.length_take]
  omega
theorem fitsP_snoc (ss : List Sp) (ws : List Int) (f t : Nat) (x : Int) : fitsP (ss ++ [⟨f, t, x⟩]) ws = (fitsP ss ws && !decide (((ws.take t).drop f).sum < x)) := by
  have h : fitsP [⟨f, t, x⟩] ws = !decide (((ws.take t).drop f).sum < x) := by
    have h1 : fitsP [⟨f, t, x⟩] ws = (decide (x ≤ ((ws.take t).drop f).sum) && true) := rfl
    rw [h1, Bool.and_true]
    by_cases h : ((ws.take t).drop f).sum < x
    · rw [decide_eq_true h, decide_eq_false (by omega)]; rfl
    · rw [decide_eq_false h, decide_eq_true (by omega)]; rfl
  rw [← h, fitsP, List.all_append]
  rfl
theorem fitsP_pre {ss ss' : List Sp} {ws : List Int} (hp : ss <+: ss') (h : fitsP ss ws = false) : fitsP ss' ws = false := by
  obtain ⟨r, rfl⟩ := hp
  unfold fitsP at h ⊢
  rw [List.all_append, h]
  rfl
theorem cols_sub_len {ws : List Int} {f t n : Nat} (hn : ws.length = n) (ht : t ≤ n) : ((ws.take t).drop f).length = t - f := by
  rw [List.length_drop, List.length_take]
  omega
theorem Row.subI {w : World} {B b off n : Nat} {xs : List Int} (hn : xs.length = n) (h : Row w B 1 (some ⟨b, off, none⟩) n (inc xs)) (f t : Nat) (ht : t ≤ n) : Row w B 1 (some ⟨b, off + f, none⟩) (t - f) (inc ((xs.take t).drop f)) := fun h0 => by
  obtain ⟨b', off', e, hb, hc⟩ := h (by omega)
  injection e with e
  injection e with e1 e2
  subst e1 e2
  refine ⟨b, off + f, rfl, hb, fun i j hi hj => ?_⟩
  obtain rfl : j = 0 := by omega
  have := hc (f + i) 0 (by omega) (by omega)
  rw [show off + f + i * 1 + 0 = off + (f + i) * 1 + 0 by omega, this]
  simp only [inc]
  rw [List.getD_eq_getElem?_getD, List.getD_eq_getElem?_getD, List.getElem?_drop, List.getElem?_take_of_lt (by omega)]
theorem grown_none {W W' : World} (h : Below W.heap.size W W') : W.grownBy W' none := ⟨h.os, h.tape, h.output, h.size, fun k hk _ => h.block k hk⟩
theorem KeepsFrom.of_below {B : Nat} {W W' : World} (h : Below W.heap.size W W') : KeepsFrom B W W' := KeepsFrom.of_grownBy (grown_none h) (fun j e => by cases e)

set_option maxRecDepth 100000 in
set_option maxHeartbeats 8000000 in
theorem fits_i (A B : Option Addr) (nr cap nw capw : Nat) (rs : List (List Cl)) (ws : List Int) (w : World) (hn : ws.length = nw) (hm : nw ≤ maxLen) (hcw : nw ≤ capw ∧ capw ≤ maxLen) (hmr : nr ≤ maxLen) (hr : Row w w.heap.size 1 B nw (inc ws)) (hT : Tab w w.heap.size A nr rs) :
    Calls Try.prog 29 #[.slice A nr cap, .slice B nw capw] w fun e w' => e = .returned (.bool (fitsV rs ws)) ∧ Below w.heap.size w w' := by
  have HN := Lib.hid hn
  rcases hok : colsOk ws with _ | _
  · rw [fits_no1 hok]
    have HOK := Lib.hid hok
    clear hok hn
    go_enter Try.func29, Try.ntmps29
    go_wp2_with fail
    ((with_reducible refine (validWidths_i _ _ _ ws _ HN.out hm ?_).mono ?_); (exact (hr.alloc' _).alloc' _); rintro e w1 ⟨rfl, hb1⟩)
    rw [HOK.out]
    have gR1 := (Blk.new_at (w.alloc (.cells #[.slice B nw capw] 22)) 4 #[.bool false] (w.heap.size + 1) (by simp)).then_ hb1
    have hB1 : Below w.heap.size w w1 := below_then (Nat.le_refl _) (by (repeat' (first | (with_reducible exact Below.refl _ _) | (with_reducible assumption) | (with_reducible refine Below.alloc ?_ ?_ _) | (with_reducible refine Below.drew ?_) | (with_reducible refine below_drewN ?_ _) | (with_reducible refine Below.setCell ?_ ?_ _) | (with_reducible refine below_then ?_ ?_ (by with_reducible assumption)) | (with_reducible exact Nat.le_refl _) | go_size | (simp only [*]; done)))) hb1
    have plt := gR1.lt
    have pc0 := gR1.cell 0; have pf0 := gR1.frozen 0
    simp only [List.getElem?_toArray, List.getElem?_cons_zero] at pc0
    go_wp2_with fail
    (first | go_returns | (refine bodyPost_ret (by simp [results, Try.results29, go_sem, *]; try rfl) rfl ?_))
    exact ⟨rfl, by (repeat' (first | (with_reducible exact Below.refl _ _) | (with_reducible assumption) | (with_reducible refine Below.alloc ?_ ?_ _) | (with_reducible refine Below.drew ?_) | (with_reducible refine below_drewN ?_ _) | (with_reducible refine Below.setCell ?_ ?_ _) | (with_reducible refine below_then ?_ ?_ (by with_reducible assumption)) | (with_reducible exact Nat.le_refl _) | go_size | (simp only [*]; done)))⟩
  rcases hok2 : tabOk rs (nw : Int) with _ | _
  · rw [fits_no2 hn hok2]
    have HOK := Lib.hid hok
    have HOK2 := Lib.hid hok2
    clear hok hn hok2
    go_enter Try.func29, Try.ntmps29
    go_wp2_with fail
    ((with_reducible refine (validWidths_i _ _ _ ws _ HN.out hm ?_).mono ?_); (exact (hr.alloc' _).alloc' _); rintro e w1 ⟨rfl, hb1⟩)
    rw [HOK.out]
    have gS1 := ((Blk.new w 22 #[.slice B nw capw]).alloc (.cells #[.bool false] 4)).then_ hb1
    have gR1 := (Blk.new_at (w.alloc (.cells #[.slice B nw capw] 22)) 4 #[.bool false] (w.heap.size + 1) (by simp)).then_ hb1
    have hB1 : Below w.heap.size w w1 := below_then (Nat.le_refl _) (by (repeat' (first | (with_reducible exact Below.refl _ _) | (with_reducible assumption) | (with_reducible refine Below.alloc ?_ ?_ _) | (with_reducible refine Below.drew ?_) | (with_reducible refine below_drewN ?_ _) | (with_reducible refine Below.setCell ?_ ?_ _) | (with_reducible refine below_then ?_ ?_ (by with_reducible assumption)) | (with_reducible exact Nat.le_refl _) | go_size | (simp only [*]; done)))) hb1
    have GR1 := Lib.hid gR1
    have plt := gS1.lt
    have pc0 := gS1.cell 0; have pf0 := gS1.frozen 0
    simp only [List.getElem?_toArray, List.getElem?_cons_zero] at pc0
    clear gR1
    go_wp2_with fail
    ((with_reducible refine (validTable_i _ _ _ _ rs _ hmr ?_).mono ?_); (exact (hT.below hB1).more hB1.size); rintro e w2 ⟨rfl, hb2⟩)
    rw [HOK2.out]
    have gR2 := GR1.out.then_ hb2
    have hB2 : Below w.heap.size w w2 := below_then (Nat.le_refl _) hB1 hb2
    have slt := gR2.lt
    have sc0 := gR2.cell 0; have sf0 := gR2.frozen 0
    simp only [List.getElem?_toArray, List.getElem?_cons_zero] at sc0
    go_wp2_with fail
    (first | go_returns | (refine bodyPost_ret (by simp [results, Try.results29, go_sem, *]; try rfl) rfl ?_))
    exact ⟨rfl, by (repeat' (first | (with_reducible exact Below.refl _ _) | (with_reducible assumption) | (with_reducible refine Below.alloc ?_ ?_ _) | (with_reducible refine Below.drew ?_) | (with_reducible refine below_drewN ?_ _) | (with_reducible refine Below.setCell ?_ ?_ _) | (with_reducible refine below_then ?_ ?_ (by with_reducible assumption)) | (with_reducible exact Nat.le_refl _) | go_size | (simp only [*]; done)))⟩
  rw [fits_yes hn hok hok2]
  have hnl := cols_len hok
  rw [hn] at hnl
  obtain ⟨b, off, rfl, hbw, _⟩ := hr (by omega)
  have HOK := Lib.hid hok
  have HOK2 := Lib.hid hok2
  have HR := Lib.hid hr
  have HT := Lib.hid hT
  clear hok hok2 hn
  refine (callsIn_wide (n := 9)).1 ?_
  refine callsIn_of_wp_marks Try.func29 rfl trivial ?_ rfl
  simp only [Try.ntmps29, List.size_toArray, List.length_cons, List.length_nil, Nat.reduceAdd, Nat.reduceSub, Array.replicate_succ, Array.replicate_zero, List.push_toArray, List.append_toArray, List.nil_append, List.cons_append]
  refine wpIn_wide.2 ?_
  go_wp2_with fail
  ((with_reducible refine (validWidths_i _ _ _ ws _ HN.out hm ?_).mono ?_); (exact (hr.alloc' _).alloc' _); rintro e w1 ⟨rfl, hb1⟩)
  rw [HOK.out]
  have gS1 := ((Blk.new w 22 #[.slice (some ⟨b, off, none⟩) nw capw]).alloc (.cells #[.bool false] 4)).then_ hb1
  have gR1 := (Blk.new_at (w.alloc (.cells #[.slice (some ⟨b, off, none⟩) nw capw] 22)) 4 #[.bool false] (w.heap.size + 1) (by simp)).then_ hb1
  have hB1 : Below w.heap.size w w1 := below_then (Nat.le_refl _) (by (repeat' (first | (with_reducible exact Below.refl _ _) | (with_reducible assumption) | (with_reducible refine Below.alloc ?_ ?_ _) | (with_reducible refine Below.drew ?_) | (with_reducible refine below_drewN ?_ _) | (with_reducible refine Below.setCell ?_ ?_ _) | (with_reducible refine below_then ?_ ?_ (by with_reducible assumption)) | (with_reducible exact Nat.le_refl _) | go_size | (simp only [*]; done)))) hb1
  have GS1 := Lib.hid gS1
  have GR1 := Lib.hid gR1
  have plt := gS1.lt
  have pc0 := gS1.cell 0; have pf0 := gS1.frozen 0
  simp only [List.getElem?_toArray, List.getElem?_cons_zero] at pc0
  clear gR1
  go_wp2_with fail
  ((with_reducible refine (validTable_i _ _ _ _ rs _ hmr ?_).mono ?_); (exact (hT.below hB1).more hB1.size); rintro e w2 ⟨rfl, hb2⟩)
  rw [HOK2.out]
  clear gS1 plt pc0 pf0
  have hB2 : Below w.heap.size w w2 := below_then (Nat.le_refl _) hB1 hb2
  go_wp2_with fail
  ((with_reducible refine (spansOf_i _ _ _ _).mono ?_); rintro e w3 ⟨rfl, rfl⟩)
  go_wp2_with fail
  obtain ⟨W0, hW0⟩ : ∃ W0, w2.alloc (.cells #[.slice A nr cap] 31) = W0 := ⟨_, rfl⟩
  have hBs : Blk W0 w2.heap.size 31 #[.slice A nr cap] := by rw [← hW0]; exact Blk.new _ _ _
  have hS0 : Blk W0 w.heap.size 22 #[.slice (some ⟨b, off, none⟩) nw capw] := by rw [← hW0]; exact (GS1.out.then_ hb2).alloc _
  have hR0 : Blk W0 (w.heap.size + 1) 4 #[.bool false] := by rw [← hW0]; exact (GR1.out.then_ hb2).alloc _
  have hB0 : Below w.heap.size w W0 := by rw [← hW0]; exact hB2.alloc hB2.size _
  rw [hW0]
  have hs0 := hR0.lt
  have hT0 : Tab W0 w.heap.size A nr rs := HT.out.below hB0
  obtain ⟨hc1, hc2⟩ := hcw
  unfold maxLen at hc2
  clear GS1 GR1 hW0 hr hT
  refine wpIn_wide (n := 9) |>.1 ?_
  refine wpIn_rangeFunc_ownH rfl (show 1 ≤ 9 by omega) (gf := 54) (lb := #[.pointer (some ⟨w2.heap.size, 0, none⟩)]) rfl trivial (enters_of Try.func54 (by kernel_rfl) rfl)
    (spans_stops (nw : Int) 8 w.heap.size w2.heap.size nr cap A rs HOK2.out W0 hBs.lt hB0.size (by omega) (hBs.cell 0) hT0) (fun h k => KC.t h k) (fun W l o o' => KC.b hB0.size W l o o') (Below.refl _ _) (fun _ => rfl)
    (fun pre W => (Blk W w.heap.size 22 #[.slice (some ⟨b, off, none⟩) nw capw] ∧ Blk W (w.heap.size + 1) 4 #[.bool false] ∧ fitsP (pre.map Subtype.val) ws = true) ∧ Below w.heap.size w W)
    (fun c pre W => (c = .ret ∧ fitsP (pre.map Subtype.val) ws = false ∧ Blk W (w.heap.size + 1) 4 #[.bool false]) ∧ Below w.heap.size w W)
    (OwnFrom.and (Own.from (fun s A B row hs hg hr => ⟨blk_kept hs.1 hg hr, blk_kept hs.2.1 hg hr, hs.2.2⟩) _) (ownFrom_below (Nat.le_refl _) hB0.size))
    (fun c => OwnFrom.and (Own.from (fun s A B row hs hg hr => ⟨hs.1, hs.2.1, blk_kept hs.2.2 hg hr⟩) _) (ownFrom_below (Nat.le_refl _) hB0.size))
    ⟨⟨hS0, hR0, rfl⟩, hB0⟩
    (fun x a' W => ∃ Bx, w.heap.size + 1 < Bx ∧ Blk W Bx 64 #[.int .i64 x.1.f, .int .i64 x.1.t, .int .i64 x.1.w] ∧ a' = { tmps := #[Value.slice A nr cap, Value.slice (some ⟨b, off, none⟩) nw capw, undef, Value.pointer (some ⟨w.heap.size, 0, none⟩), Value.pointer (some ⟨w.heap.size + 1, 0, none⟩), Value.pointer (some ⟨Bx, 0, none⟩), Value.slice (some ⟨b, off, none⟩) nw capw, Value.bool true, Value.bool false, Value.bool false, Value.slice A nr cap, Value.slice (some ⟨b, off, none⟩) nw capw, Value.int IntKind.i64 nw, Value.bool true, Value.bool false, Value.bool false, Value.slice A nr cap, Value.func (Fn.func 54) #[] #[Value.pointer (some ⟨w2.heap.size, 0, none⟩)], .agg #[.int .i64 x.1.f, .int .i64 x.1.t, .int .i64 x.1.w], undef, undef, undef, undef, undef, undef, undef, undef, undef, undef], defers := [] })
    (fun x a' => Own.from (fun s A B row hs hg hr => by obtain ⟨Bx, h1, h2, h3⟩ := hs; exact ⟨Bx, h1, blk_kept h2 hg hr, h3⟩) _) ?assign ?body ?done ?stop
  case assign =>
    rintro l pre ⟨⟨xf, xt, xw⟩, x0, x1, x2, x3, x4⟩ W K ⟨⟨bS, bR, hfit⟩, hB⟩ hK
    dsimp only [encS]
    gi_wp2
    have hWW : Below W.heap.size W (W.alloc (.cells #[.int .i64 xf, .int .i64 xt, .int .i64 xw] 64)) := (Below.refl _ _).alloc (Nat.le_refl _) _
    have hge : w.heap.size + 1 < W.heap.size := bR.lt
    exact hK _ _ (KeepsFrom.of_below hWW) (KC.of_below hWW hB.size) ⟨⟨bS.alloc _, bR.alloc _, hfit⟩, hB.alloc hB.size _⟩ ⟨W.heap.size, hge, Blk.new _ _ _, rfl⟩
  case body =>
    rintro l pre ⟨⟨xf, xt, xw⟩, x0, x1, x2, x3, x4⟩ a' W hl ⟨r, hlr⟩ ⟨⟨bS, bR, hfit⟩, hB⟩ ⟨Bx, hBx, bX, rfl⟩ hlen
    have hR' := hB.size
    have hBr : Row W w.heap.size 1 (some ⟨b, off, none⟩) nw (inc ws) := HR.out.below hB
    have hbR := bR.lt
    have hbX := bX.lt
    have hlo : (0 : Int) ≤ xf := x0
    have hft : xf < xt := x1
    have htn : xt ≤ (nw : Int) := x2
    obtain ⟨fk, rfl⟩ := Int.eq_ofNat_of_zero_le x0
    obtain ⟨tk, rfl⟩ : ∃ tk : Nat, xt = (tk : Int) := Int.eq_ofNat_of_zero_le (by omega)
    dsimp only
    refine wpIn_block ?_
    refine wpIn_seq_k fun K0 hK0 => ?_
    refine round_quiet_tail (fun w' => Below W.heap.size W w') 9 (by kernel_rfl) (by kernel_rfl) (by kernel_rfl) ?_ ?_
    · exact (Below.refl _ _).drew
    simp only [List.take_succ_cons, List.take_zero, List.drop_succ_cons, List.drop_zero]
    generalize (List.toArray _ : Array Oper) = OPS
    iterate 9
      refine wpQuiet_step (fun K hK => ?_)
      rw [if_pos (by simp [Region.wanted])]
      apply Exists.intro
      refine ⟨fun w' hw' => ?_, hK _ ?_⟩
      · have bX' := bX.then_ hw'
        have bS' := bS.then_ hw'
        have xlt := bX'.lt
        have xc0 := bX'.cell 0; have xf0 := bX'.frozen 0
        have xc1 := bX'.cell 1; have xf1 := bX'.frozen 1
        have xc2 := bX'.cell 2; have xf2 := bX'.frozen 2
        simp only [List.getElem?_toArray, List.getElem?_cons_zero, List.getElem?_cons_succ] at xc0 xc1 xc2
        have slt := bS'.lt
        have sc0 := bS'.cell 0; have sf0 := bS'.frozen 0
        simp only [List.getElem?_toArray, List.getElem?_cons_zero] at sc0
        go_simp
        first | (with_reducible rfl) | (go_at_call 37; (with_reducible refine (sumOf_i _ _ _ _ _ (cols_sub HN.out HOK.out (by omega) (by omega)) (cols_sub_len HN.out (by omega)) (((hBr.subI HN.out fk tk (by omega)).below (hw'.mono hR')).more (Nat.le_trans hR' hw'.size))).mono ?_); rintro e w2 ⟨rfl, hb2⟩; exact ⟨rfl, below_then (Nat.le_refl _) hw' hb2⟩) | (rw [if_pos (show tk ≤ capw by omega), if_pos (show fk ≤ tk by omega), if_neg (show ¬ capw = fk by omega)]; exact ⟨rfl, rfl⟩)
      clear hK K
      conv => arg 6; simp only [Act.put, List.setIfInBounds_toArray, List.set_cons_succ, List.set_cons_zero]
    refine wpQuiet_nil ?_
    intro w5 hw5
    have bR5 := bR.then_ hw5
    have bS5 := bS.then_ hw5
    have hB5 := below_then (Nat.le_refl _) hB hw5
    have hf5 : ∀ y : Bool, decide (((ws.take tk).drop fk).sum < xw) = y → fitsP (pre.map Subtype.val ++ [⟨fk, tk, xw⟩]) ws = (fitsP (pre.map Subtype.val) ws && !y) := by
      intro y hy
      rw [← hy]
      exact fitsP_snoc _ _ _ _ _
    have HF5 := Lib.hid hf5
    clear hf5
    have rlt := bR5.lt
    have rc0 := bR5.cell 0; have rf0 := bR5.frozen 0
    simp only [List.getElem?_toArray, List.getElem?_cons_zero] at rc0
    rcases hy : decide (((ws.take tk).drop fk).sum < xw) with _ | _
    · have hy' : ¬ ((ws.take tk).drop fk).sum < xw := by simpa using hy
      have HY := Lib.hid hy
      clear hy
      gi_wp2
      refine ⟨KeepsFrom.of_below hw5, KC.of_below hw5 hR', ⟨bS5, bR5, ?_⟩, hB5⟩
      show fitsP ((pre ++ [_]).map Subtype.val) ws = true
      rw [List.map_append]
      exact (HF5.out _ HY.out).trans (by rw [hfit]; rfl)
    · have hy' : ((ws.take tk).drop fk).sum < xw := by simpa using hy
      have HY := Lib.hid hy
      clear hy
      gi_wp2
      refine ⟨(KeepsFrom.of_below hw5).trans ((KeepsOthers.setCell _ _ _).from _), ⟨rfl, ?_, (bR5.set_ 0 (.bool false)).eq rfl⟩, hB5.setCell (p := ⟨w.heap.size + 1, 0, none⟩) (by simp) _⟩
      show fitsP ((pre ++ [_]).map Subtype.val) ws = false
      rw [List.map_append]
      exact (HF5.out _ HY.out).trans (by rw [hfit]; rfl)
  case done =>
    rintro D ys W hD hys ⟨⟨bS, bR, hfit⟩, hB⟩ hK
    rename_i K1 hK1
    refine hK1 _ _ ?_
    clear hK1
    have rlt := bR.lt
    have rc0 := bR.cell 0; have rf0 := bR.frozen 0
    simp only [List.getElem?_toArray, List.getElem?_cons_zero] at rc0
    go_wp2_with fail
    have hK' := (KeepsOthers.setCell W ⟨w.heap.size + 1, 0, none⟩ (.bool true)).same D _ hK rfl
    refine ⟨by simp, .inl ⟨_, _, rfl, run_takeDeferred hK', ?_⟩⟩
    have hc5 := cell_kept (World.cell?_setCell_same' W ⟨w.heap.size + 1, 0, none⟩ (.bool true) (by rw [bR.cell 0]; rfl)) (grownBy_putObj' _ D (.deferred none)) (fun r e => by cases e; exact ⟨_, hK', rfl⟩)
    refine ⟨.bool true, ?_, by rw [← hys, hfit], (hB.setCell (p := ⟨w.heap.size + 1, 0, none⟩) (by simp) _).trans (belowK_b (w := w) (Nat.le_refl _) _ D _ _ (by omega) hK' rfl rfl)⟩
    simp [results, Try.f29, go_sem, hc5]
  case stop =>
    rintro D c pre W hD hpre ⟨⟨rfl, hfit, bR⟩, hB⟩ hK
    have rlt := bR.lt
    have rc0 := bR.cell 0; have rf0 := bR.frozen 0
    simp only [List.getElem?_toArray, List.getElem?_cons_zero] at rc0
    gi_wp2
    refine ⟨by simp, .inl ⟨_, _, rfl, run_takeDeferred hK, ?_⟩⟩
    have hc5 := cell_kept (bR.cell 0) (grownBy_putObj' _ D (.deferred none)) (fun r e => by cases e; exact ⟨_, hK, rfl⟩)
    refine ⟨.bool false, ?_, by rw [fitsP_pre hpre hfit], hB.trans (belowK_b (w := w) (Nat.le_refl _) W D _ _ (by omega) hK rfl rfl)⟩
    simp [results, Try.f29, go_sem, hc5]
end Go.Proofs.Ytbkhimdebpllcaa
