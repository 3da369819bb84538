/- BestPages of the reference returns what the plain function says. Conditions: the slice reads as the list. -/
import Derived.Test.YticdgpgbpgjnbaaBestI
import Derived.Test.YticdgpgbpgjnbaaAppend2
namespace Go.Proofs.Yticdgpgbpgjnbaa
open Go.RowKit

def encK (c : Nat → Nat → Option Int) (i m q k _q : Nat) : Value := enc (stt c i m k) q
theorem bool_info : (Try.prog.info? 4).map (fun i => (i.zero, i.size, i.bytes)) = some (some (.bool false), 1, 1) := by kernel_rfl
theorem made1 (w : World) (t : TypeId) (z : Value) (n : Nat) (hn : n ≤ maxLen) : OwnP (w.alloc (.cells (madeCells #[z] n) t)) w.heap.size t 1 (some ⟨w.heap.size, 0, none⟩) n n (fun _ _ => z) := by
  have h := OwnP.made w t #[z] n (by simp) hn
  have e : n * #[z].size = n := by simp
  rw [e] at h
  exact h.congr fun i q _ hq => by
    have hq' : q < 1 := hq
    obtain rfl : q = 0 := by omega
    rfl
theorem one_own (w : World) (t : TypeId) (v : Value) : (w.alloc (.cells #[v] t)).ownsRow w.heap.size t 1 (.slice (some ⟨w.heap.size, 0, none⟩) 1 1) 1 [v] :=
  ⟨rfl, .inr ⟨w.heap.size, 1, #[v], rfl, Nat.le_refl _, heap_alloc_new w _, Nat.le_refl _, by unfold maxLen; omega, rfl, rfl⟩⟩
theorem encK_first (c : Nat → Nat → Option Int) : (∀ k q, encK c 1 0 0 k q = .int .i64 0) ∧ (∀ k q, encK c 1 0 1 k q = .int .i64 0) ∧ (∀ k q, encK c 1 0 2 k q = .bool (k == 0)) := by
  refine ⟨fun k q => ?_, fun k q => ?_, fun k q => ?_⟩ <;> unfold encK <;> rw [stt_first] <;> by_cases h : k = 0 <;> simp [h, enc]
theorem encK_at (c : Nat → Nat → Option Int) (i m q z : Nat) : encK c i m q i z = enc (Dp.best (Dp.tbl c) (fun k => c k i) m) q := by unfold encK; rw [stt_at]
theorem encK_lt {c : Nat → Nat → Option Int} {i m q k z : Nat} (h : k < i) : encK c i m q k z = enc (Dp.tbl c k) q := by unfold encK; rw [stt_lt h]
theorem encK_skip {c : Nat → Nat → Option Int} {i m q : Nat} (e : stt c i (m + 1) = stt c i m) : encK c i (m + 1) q = encK c i m q := by funext k z; unfold encK; rw [e]
theorem encK_next {c : Nat → Nat → Option Int} {i q : Nat} (hi : 0 < i) : encK c i i q = encK c (i + 1) 0 q := by funext k z; unfold encK; rw [stt_next hi]
theorem encK_set {c : Nat → Nat → Option Int} {i m N q : Nat} {v : Int} (e : ∀ k, stt c i (m + 1) k = if k = i then some (v, m) else stt c i m k) {u : Value} (hu : u = enc (some (v, m)) q) : ∀ k z, k < N → z < 1 →
    (if k = i ∧ z = 0 then u else encK c i m q k z) = encK c i (m + 1) q k z := by
  intro k z _ hz
  obtain rfl : z = 0 := by omega
  unfold encK
  rw [e]
  by_cases h : k = i
  · subst h; simp [hu]
  · simp [h]

set_option maxRecDepth 100000 in
set_option maxHeartbeats 8000000 in
theorem best_s (A : Option Addr) (n cap : Nat) (h : Int) (xs : List Ln) (w : World) (hn : xs.length = n) (hm : n ≤ maxLen) (hr : Row w w.heap.size 3 A n (lnc xs)) :
    Calls Try.prog 35 #[.slice A n cap, .int .i64 h] w (PathOut w (bestV xs h)) := by
  have hE := Lib.hid (owns_nil _ w.heap.size 3 1 0 _ _ (Blk.new w 3 #[]) (Nat.le_refl _) (by unfold maxLen; omega) rfl)
  have hb0 : Below w.heap.size w (w.alloc (.cells #[] 3)) := (Below.refl _ _).alloc (Nat.le_refl _) _
  have hr0 := hr.alloc' (.cells #[] 3)
  rcases hlo : linesOk xs with _ | _
  · have E := Lib.hid (best_bad (xs := xs) (h := h) (by rw [pagingOk, hlo]; rfl))
    clear hr
    go_enter Try.func35, Try.ntmps35
    go_wp2_with fail
    ((with_reducible refine (validLines_s _ _ _ xs _ hn hm ?_).mono ?_); (exact hr0); rintro e w1 ⟨rfl, hb⟩)
    rw [hlo]
    go_wp2
    (first | go_returns | (refine bodyPost_ret (by simp [results, Try.results35, go_sem, *]; try rfl) rfl ?_))
    exact ⟨none, 0, by rw [E.out]; rfl, by rw [E.out]; exact ⟨rfl, .inl ⟨rfl, rfl⟩⟩, below_then (by simp) hb0 hb⟩
  rcases hwo : widthOk h with _ | _
  · have E := Lib.hid (best_bad (xs := xs) (h := h) (by rw [pagingOk, hlo, hwo]; rfl))
    clear hr
    go_enter Try.func35, Try.ntmps35
    go_wp2_with fail
    ((with_reducible refine (validLines_s _ _ _ xs _ hn hm ?_).mono ?_); (exact hr0); rintro e w1 ⟨rfl, hb⟩)
    rw [hlo]
    go_wp2_with fail
    ((with_reducible refine (validWidth_any _ _).mono ?_); rintro e w' ⟨rfl, rfl⟩)
    rw [hwo]
    go_wp2
    (first | go_returns | (refine bodyPost_ret (by simp [results, Try.results35, go_sem, *]; try rfl) rfl ?_))
    exact ⟨none, 0, by rw [E.out]; rfl, by rw [E.out]; exact ⟨rfl, .inl ⟨rfl, rfl⟩⟩, below_then (by simp) hb0 hb⟩
  have hv : pagingOk xs h = true := by rw [pagingOk, hlo, hwo]; rfl
  obtain ⟨hok, g1, g2⟩ := paging_iff hv
  have hl := linesOk_len hok
  rw [hn] at hl
  obtain ⟨j0, ji, jz0, jz1, jz2⟩ := info_parts int_info
  obtain ⟨k0, ki, kz0, kz1, kz2⟩ := info_parts bool_info
  have hmk := make_n (P := Try.prog) 37 3 j0 _ Try.underlying37 ji jz0 (n + 1) (by rw [jz2]; omega) (by omega)
  rw [jz1, Int.natCast_add, Int.natCast_one] at hmk
  have hmb := make_n (P := Try.prog) 71 4 k0 _ Try.underlying71 ki kz0 (n + 1) (by rw [kz2]; omega) (by omega)
  rw [kz1, Int.natCast_add, Int.natCast_one] at hmb
  have HOK := Lib.hid hok
  have HN := Lib.hid hn
  have HR := Lib.hid hr
  have HV := Lib.hid hv
  have HR0 := Lib.hid hr0
  have HLO := Lib.hid hlo
  have HWO := Lib.hid hwo
  have HE := Lib.hid (best_ok HN.out hv)
  have HRNG := Lib.hid (tblP_rng HN.out hv)
  have HCR := Lib.hid (pageC_rng HN.out hv)
  have mz : (madeCells #[Value.bool false] ((n + 1) * 1))[0]? = some (.bool false) := by simp [madeCells]
  have mz' : (madeCells #[Value.bool false] (n + 1))[0]? = some (.bool false) := by simp [madeCells]
  clear hok hn hr hv hr0 hlo hwo
  go_enter Try.func35, Try.ntmps35
  go_wp2_with fail
  ((with_reducible refine (validLines_s _ _ _ xs _ HN.out hm ?_).mono ?_); (exact HR0.out); rintro e w1 ⟨rfl, hb⟩)
  rw [HLO.out]
  have hz := hb.size
  simp at hz
  go_wp2_with fail
  ((with_reducible refine (validWidth_any _ _).mono ?_); rintro e w' ⟨rfl, rfl⟩)
  rw [HWO.out]
  have hB1 := below_then (by simp) hb0 hb
  have a0 : OwnP (((w1.alloc (.cells (madeCells #[.int .i64 0] (n + 1)) 3)).alloc (.cells (madeCells #[.int .i64 0] (n + 1)) 3)).alloc (.cells ((madeCells #[.bool false] (n + 1)).setIfInBounds 0 (.bool true)) 4)) w1.heap.size 3 1 (some ⟨w1.heap.size, 0, none⟩) (n + 1) (n + 1) (encK (pageC xs h) 1 0 0) :=
    (((made1 w1 3 (.int .i64 0) (n + 1) (by unfold maxLen; omega)).alloc _).alloc _).congr fun k q _ _ => ((encK_first _).1 k q).symm
  have a1 : OwnP (((w1.alloc (.cells (madeCells #[.int .i64 0] (n + 1)) 3)).alloc (.cells (madeCells #[.int .i64 0] (n + 1)) 3)).alloc (.cells ((madeCells #[.bool false] (n + 1)).setIfInBounds 0 (.bool true)) 4)) (w1.alloc (.cells (madeCells #[.int .i64 0] (n + 1)) 3)).heap.size 3 1 (some ⟨(w1.alloc (.cells (madeCells #[.int .i64 0] (n + 1)) 3)).heap.size, 0, none⟩) (n + 1) (n + 1) (encK (pageC xs h) 1 0 1) :=
    ((made1 _ 3 (.int .i64 0) (n + 1) (by unfold maxLen; omega)).alloc _).congr fun k q _ _ => ((encK_first _).2.1 k q).symm
  have a2' := (made1 ((w1.alloc (.cells (madeCells #[.int .i64 0] (n + 1)) 3)).alloc (.cells (madeCells #[.int .i64 0] (n + 1)) 3)) 4 (.bool false) (n + 1) (by unfold maxLen; omega)).set1 (i := 0) (by omega) (.bool true)
  rw [World.setCell_alloc_at _ _ _ _ _ rfl] at a2'
  have a2 := a2'.congr (f' := encK (pageC xs h) 1 0 2) fun k q _ hq => by
    obtain rfl : q = 0 := by omega
    rw [(encK_first _).2.2 k 0]
    by_cases h0 : k = 0 <;> simp [h0]
  simp only [World.size_alloc] at a1 a2
  have HA0 := Lib.hid a0
  have HA1 := Lib.hid (a1.mono (base' := w1.heap.size) (by omega))
  have HA2 := Lib.hid (a2.mono (base' := w1.heap.size) (by omega))
  have hbW : Below w1.heap.size w1 (((w1.alloc (.cells (madeCells #[.int .i64 0] (n + 1)) 3)).alloc (.cells (madeCells #[.int .i64 0] (n + 1)) 3)).alloc (.cells ((madeCells #[.bool false] (n + 1)).setIfInBounds 0 (.bool true)) 4)) := (((Below.refl _ _).alloc (Nat.le_refl _) _).alloc (by simp) _).alloc (by simp; omega) _
  have hE1 := Lib.hid (OwnI.then_ (show OwnI _ w.heap.size (some ⟨w.heap.size, 0, none⟩) 0 0 [] from hE.out) hb)
  clear a0 a1 a2 a2'
  go_wp2_with fail
  go_loopg [11] n (fun k iv wr => ∃ i : Nat, 1 ≤ i ∧ i ≤ n + 1 ∧ k = n + 1 - i ∧ iv = .int .i64 i ∧ Hid (OwnP wr w1.heap.size 3 1 (some ⟨w1.heap.size, 0, none⟩) (n + 1) (n + 1) (encK (pageC xs h) i 0 0)) ∧ Hid (OwnP wr w1.heap.size 3 1 (some ⟨w1.heap.size + 1, 0, none⟩) (n + 1) (n + 1) (encK (pageC xs h) i 0 1)) ∧ Hid (OwnP wr w1.heap.size 4 1 (some ⟨w1.heap.size + 1 + 1, 0, none⟩) (n + 1) (n + 1) (encK (pageC xs h) i 0 2)) ∧ Below w1.heap.size w1 wr)
  case atStart => exact ⟨1, Nat.le_refl _, by omega, by omega, by go_num, HA0.out, HA1.out, HA2.out, hbW⟩
  case round =>
    obtain ⟨i, hi1, hiN, hk, rfl, oa, ob, oc, hbel⟩ := hrel
    have HK := Lib.hid hk; clear hk
    obtain ⟨wo, hwo⟩ : ∃ wo : World, wo = wr := ⟨_, rfl⟩
    subst hwo
    have hsz := hbel.size
    by_cases hlt : i ≤ n
    · have hltN : (i : Int) ≤ (n : Int) := by omega
      have hltN' : (i : Int) < (n : Int) + 1 := by omega
      go_wp2_with fail
      go_loopg [12] i (fun kk mv wi => ∃ m : Nat, m ≤ i ∧ kk = i - m ∧ mv = .int .i64 m ∧ Hid (OwnP wi w1.heap.size 3 1 (some ⟨w1.heap.size, 0, none⟩) (n + 1) (n + 1) (encK (pageC xs h) i m 0)) ∧ Hid (OwnP wi w1.heap.size 3 1 (some ⟨w1.heap.size + 1, 0, none⟩) (n + 1) (n + 1) (encK (pageC xs h) i m 1)) ∧ Hid (OwnP wi w1.heap.size 4 1 (some ⟨w1.heap.size + 1 + 1, 0, none⟩) (n + 1) (n + 1) (encK (pageC xs h) i m 2)) ∧ Below w1.heap.size w1 wi)
      case atStart => exact ⟨0, Nat.zero_le _, rfl, by go_num, oa.out, ob.out, oc.out, hbel⟩
      case round =>
        obtain ⟨m, hm, hk2, rfl, ia, ib, ic, hbi⟩ := hrel
        have HK2 := Lib.hid hk2; clear hk2
        obtain ⟨wi, hwi⟩ : ∃ wi : World, wi = wr := ⟨_, rfl⟩
        subst hwi
        have hszi := hbi.size
        by_cases hmi : m < i
        · have hmi' : (m : Int) < (i : Int) := by omega
          have hmN' : (m : Int) < (n : Int) + 1 := by omega
          obtain ⟨U, hU⟩ : ∃ U, Dp.best (Dp.tbl (pageC xs h)) (fun k => pageC xs h k i) m = U := ⟨_, rfl⟩
          have hrow := (HR.out.below (below_then (Nat.le_refl _) hB1 hbi)).more (below_then (Nat.le_refl _) hB1 hbi).size
          have HROW := Lib.hid hrow
          have HU := Lib.hid hU
          clear hrow
          have CALL := pageCost_s A n cap m i h xs wi HOK.out HN.out hmi hlt g1 g2 HROW.out
          have HT' : ∃ T, Dp.tbl (pageC xs h) m = T := ⟨_, rfl⟩
          have HC' : ∃ C, pageC xs h m i = C := ⟨_, rfl⟩
          obtain ⟨T, hT⟩ := HT'
          obtain ⟨C, hC⟩ := HC'
          rw [hC] at CALL
          have HT := Lib.hid hT
          have HC := Lib.hid hC
          have HCALL := Lib.hid CALL
          have POST : ∀ w5, Below wi.heap.size wi w5 → OwnP w5 w1.heap.size 3 1 (some ⟨w1.heap.size, 0, none⟩) (n + 1) (n + 1) (encK (pageC xs h) i m 0) ∧ OwnP w5 w1.heap.size 3 1 (some ⟨w1.heap.size + 1, 0, none⟩) (n + 1) (n + 1) (encK (pageC xs h) i m 1) ∧ OwnP w5 w1.heap.size 4 1 (some ⟨w1.heap.size + 1 + 1, 0, none⟩) (n + 1) (n + 1) (encK (pageC xs h) i m 2) ∧ Below w1.heap.size w1 w5 ∧
              w5.cell? ⟨w1.heap.size, m, none⟩ = some (enc T 0) ∧ w5.cell? ⟨w1.heap.size + 1 + 1, m, none⟩ = some (enc T 2) ∧ w5.cell? ⟨w1.heap.size, i, none⟩ = some (enc U 0) ∧ w5.cell? ⟨w1.heap.size + 1, i, none⟩ = some (enc U 1) ∧ w5.cell? ⟨w1.heap.size + 1 + 1, i, none⟩ = some (enc U 2) := fun w5 hb5 => by
            have r0 := ia.out.then_ hb5
            have r1 := ib.out.then_ hb5
            have r2 := ic.out.then_ hb5
            have e0 := r0.cell1 (i := m) (by omega)
            have e2 := r2.cell1 (i := m) (by omega)
            have f0 := r0.cell1 (i := i) (by omega)
            have f1 := r1.cell1 (i := i) (by omega)
            have f2 := r2.cell1 (i := i) (by omega)
            rw [encK_lt hmi, hT] at e0 e2
            rw [encK_at, hU] at f0 f1 f2
            exact ⟨r0, r1, r2, below_then (Nat.le_refl _) hbi hb5, e0, e2, f0, f1, f2⟩
          have HP := Lib.hid POST
          clear hT hC CALL POST hU
          rcases C with _ | s
          · simp only [Option.getD_none, Option.isSome_none] at HCALL
            have e : stt (pageC xs h) i (m + 1) = stt (pageC xs h) i m := stt_skip (by
              rcases T with _ | ⟨t1, t2⟩
              · unfold Dp.upd; rw [HT.out]
              · exact upd_c HT.out HC.out)
            have E := Lib.hid e
            clear e
            go_wp2_with fail
            ((with_reducible refine HCALL.out.mono ?_); rintro e w5 ⟨rfl, hb5⟩)
            obtain ⟨r0, r1, r2, hbw, e0, e2, f0, f1, f2⟩ := HP.out w5 hb5
            simp only [enc, Option.getD_none, Option.getD_some, Option.isSome_none, Option.isSome_some] at e0 e2 f0 f1 f2
            have gl0 := r0.lt
            have gl1 := r1.lt
            have gl2 := r2.lt
            have fr0 := r0.frozen i
            have fr1 := r1.frozen i
            have fr2 := r2.frozen i
            have R0 := Lib.hid r0
            have R1 := Lib.hid r1
            have R2 := Lib.hid r2
            clear r0 r1 r2
            go_wp2_with fail
            go_quiet (fail)
            go_wp2_with fail
            go_roundg (i - (m + 1))
            case measure => have := HK2.out; omega
            case rel => exact ⟨m + 1, by omega, rfl, by go_num, (by show OwnP _ _ _ _ _ _ _ _; rw [encK_skip E.out]; exact R0.out.drewN _), (by show OwnP _ _ _ _ _ _ _ _; rw [encK_skip E.out]; exact R1.out.drewN _), (by show OwnP _ _ _ _ _ _ _ _; rw [encK_skip E.out]; exact R2.out.drewN _), below_drewN hbw _⟩

          · obtain ⟨s0, s1⟩ := HCR.out m i s hmi hlt HC.out
            simp only [Option.getD_some, Option.isSome_some] at HCALL
            rcases T with _ | ⟨q1, q2⟩
            · have e : stt (pageC xs h) i (m + 1) = stt (pageC xs h) i m := stt_skip (by unfold Dp.upd; rw [HT.out])
              have E := Lib.hid e
              clear e
              go_wp2_with fail
              ((with_reducible refine HCALL.out.mono ?_); rintro e w5 ⟨rfl, hb5⟩)
              obtain ⟨r0, r1, r2, hbw, e0, e2, f0, f1, f2⟩ := HP.out w5 hb5
              simp only [enc, Option.getD_none, Option.getD_some, Option.isSome_none, Option.isSome_some] at e0 e2 f0 f1 f2
              have gl0 := r0.lt
              have gl1 := r1.lt
              have gl2 := r2.lt
              have fr0 := r0.frozen i
              have fr1 := r1.frozen i
              have fr2 := r2.frozen i
              have R0 := Lib.hid r0
              have R1 := Lib.hid r1
              have R2 := Lib.hid r2
              clear r0 r1 r2
              go_wp2_with fail
              go_quiet (fail)
              go_wp2_with fail
              go_roundg (i - (m + 1))
              case measure => have := HK2.out; omega
              case rel => exact ⟨m + 1, by omega, rfl, by go_num, (by show OwnP _ _ _ _ _ _ _ _; rw [encK_skip E.out]; exact R0.out.drewN _), (by show OwnP _ _ _ _ _ _ _ _; rw [encK_skip E.out]; exact R1.out.drewN _), (by show OwnP _ _ _ _ _ _ _ _; rw [encK_skip E.out]; exact R2.out.drewN _), below_drewN hbw _⟩

            · obtain ⟨t0, t1⟩ := HRNG.out m (by omega) q1 q2 HT.out
              have w1' : IntKind.i64.wrap (q1 + s) = q1 + s := IntWalk.i64_in _ (by omega)
              rcases U with _ | ⟨b1, b2⟩
              · have e : ∀ k, stt (pageC xs h) i (m + 1) k = if k = i then some (q1 + s, m) else stt (pageC xs h) i m k := stt_set (by rw [HU.out]; exact upd_first HT.out HC.out)
                have E := Lib.hid e
                clear e
                go_wp2_with fail
                ((with_reducible refine HCALL.out.mono ?_); rintro e w5 ⟨rfl, hb5⟩)
                obtain ⟨r0, r1, r2, hbw, e0, e2, f0, f1, f2⟩ := HP.out w5 hb5
                simp only [enc, Option.getD_none, Option.getD_some, Option.isSome_none, Option.isSome_some] at e0 e2 f0 f1 f2
                have gl0 := r0.lt
                have gl1 := r1.lt
                have gl2 := r2.lt
                have fr0 := r0.frozen i
                have fr1 := r1.frozen i
                have fr2 := r2.frozen i
                have R0 := Lib.hid r0
                have R1 := Lib.hid r1
                have R2 := Lib.hid r2
                clear r0 r1 r2
                go_wp2_with fail
                go_quiet (fail)
                go_wp2_with fail
                go_roundg (i - (m + 1))
                case measure => have := HK2.out; omega
                case rel =>
                  refine ⟨m + 1, by omega, rfl, by go_num, ?_, ?_, ?_, ?_⟩
                  · show OwnP _ _ _ _ _ _ _ _
                    exact (((((R0.out.drewN _).set1 (i := i) (by omega) _).far (by intro x hx; cases hx; simp <;> omega) _).far (by intro x hx; cases hx; simp <;> omega) _).congr (encK_set E.out rfl))
                  · show OwnP _ _ _ _ _ _ _ _
                    exact (((((R1.out.drewN _).far (by intro x hx; cases hx; simp <;> omega) _).set1 (i := i) (by omega) _).far (by intro x hx; cases hx; simp <;> omega) _).congr (encK_set E.out rfl))
                  · show OwnP _ _ _ _ _ _ _ _
                    exact (((((R2.out.drewN _).far (by intro x hx; cases hx; simp <;> omega) _).far (by intro x hx; cases hx; simp <;> omega) _).set1 (i := i) (by omega) _).congr (encK_set E.out rfl))
                  · exact (((below_drewN hbw _).setCell (by simp) _).setCell (by simp <;> omega) _).setCell (by simp <;> omega) _

              · by_cases hless : q1 + s < b1
                · have e : ∀ k, stt (pageC xs h) i (m + 1) k = if k = i then some (q1 + s, m) else stt (pageC xs h) i m k := stt_set (by rw [HU.out]; exact upd_less HT.out HC.out hless)
                  have E := Lib.hid e
                  have hd : decide (q1 + s < b1) = true := decide_eq_true hless
                  clear e
                  go_wp2_with fail
                  ((with_reducible refine HCALL.out.mono ?_); rintro e w5 ⟨rfl, hb5⟩)
                  obtain ⟨r0, r1, r2, hbw, e0, e2, f0, f1, f2⟩ := HP.out w5 hb5
                  simp only [enc, Option.getD_none, Option.getD_some, Option.isSome_none, Option.isSome_some] at e0 e2 f0 f1 f2
                  have gl0 := r0.lt
                  have gl1 := r1.lt
                  have gl2 := r2.lt
                  have fr0 := r0.frozen i
                  have fr1 := r1.frozen i
                  have fr2 := r2.frozen i
                  have R0 := Lib.hid r0
                  have R1 := Lib.hid r1
                  have R2 := Lib.hid r2
                  clear r0 r1 r2
                  go_wp2_with fail
                  go_quiet (fail)
                  go_wp2_with fail
                  go_roundg (i - (m + 1))
                  case measure => have := HK2.out; omega
                  case rel =>
                    refine ⟨m + 1, by omega, rfl, by go_num, ?_, ?_, ?_, ?_⟩
                    · show OwnP _ _ _ _ _ _ _ _
                      exact (((((R0.out.drewN _).set1 (i := i) (by omega) _).far (by intro x hx; cases hx; simp <;> omega) _).far (by intro x hx; cases hx; simp <;> omega) _).congr (encK_set E.out rfl))
                    · show OwnP _ _ _ _ _ _ _ _
                      exact (((((R1.out.drewN _).far (by intro x hx; cases hx; simp <;> omega) _).set1 (i := i) (by omega) _).far (by intro x hx; cases hx; simp <;> omega) _).congr (encK_set E.out rfl))
                    · show OwnP _ _ _ _ _ _ _ _
                      exact (((((R2.out.drewN _).far (by intro x hx; cases hx; simp <;> omega) _).far (by intro x hx; cases hx; simp <;> omega) _).set1 (i := i) (by omega) _).congr (encK_set E.out rfl))
                    · exact (((below_drewN hbw _).setCell (by simp) _).setCell (by simp <;> omega) _).setCell (by simp <;> omega) _

                · have e : stt (pageC xs h) i (m + 1) = stt (pageC xs h) i m := stt_skip (by rw [HU.out]; exact upd_keep HT.out HC.out hless)
                  have E := Lib.hid e
                  have hd : decide (q1 + s < b1) = false := decide_eq_false hless
                  clear e hless
                  go_wp2_with fail
                  ((with_reducible refine HCALL.out.mono ?_); rintro e w5 ⟨rfl, hb5⟩)
                  obtain ⟨r0, r1, r2, hbw, e0, e2, f0, f1, f2⟩ := HP.out w5 hb5
                  simp only [enc, Option.getD_none, Option.getD_some, Option.isSome_none, Option.isSome_some] at e0 e2 f0 f1 f2
                  have gl0 := r0.lt
                  have gl1 := r1.lt
                  have gl2 := r2.lt
                  have fr0 := r0.frozen i
                  have fr1 := r1.frozen i
                  have fr2 := r2.frozen i
                  have R0 := Lib.hid r0
                  have R1 := Lib.hid r1
                  have R2 := Lib.hid r2
                  clear r0 r1 r2
                  go_wp2_with fail
                  go_quiet (fail)
                  go_wp2_with fail
                  go_roundg (i - (m + 1))
                  case measure => have := HK2.out; omega
                  case rel => exact ⟨m + 1, by omega, rfl, by go_num, (by show OwnP _ _ _ _ _ _ _ _; rw [encK_skip E.out]; exact R0.out.drewN _), (by show OwnP _ _ _ _ _ _ _ _; rw [encK_skip E.out]; exact R1.out.drewN _), (by show OwnP _ _ _ _ _ _ _ _; rw [encK_skip E.out]; exact R2.out.drewN _), below_drewN hbw _⟩

        · have emi : m = i := by omega
          subst emi
          have N0 := Lib.hid (encK_next (c := pageC xs h) (q := 0) (show 0 < m by omega))
          have N1 := Lib.hid (encK_next (c := pageC xs h) (q := 1) (show 0 < m by omega))
          have N2 := Lib.hid (encK_next (c := pageC xs h) (q := 2) (show 0 < m by omega))
          go_wp2_with fail
          go_roundg (n + 1 - (m + 1))
          case measure => have := HK.out; omega
          case rel => exact ⟨m + 1, by omega, by omega, rfl, by go_num, (by show OwnP _ _ _ _ _ _ _ _; rw [← N0.out]; exact ia.out), (by show OwnP _ _ _ _ _ _ _ _; rw [← N1.out]; exact ib.out), (by show OwnP _ _ _ _ _ _ _ _; rw [← N2.out]; exact ic.out), hbi⟩
    · have eiN : i = n + 1 := by omega
      subst eiN
      have hgl := oc.out.lt
      have z0 := oa.out.cell1 (i := n) (by omega)
      have z2 := oc.out.cell1 (i := n) (by omega)
      rw [encK_lt (by omega)] at z0 z2
      rcases hT : Dp.tbl (pageC xs h) n with _ | p
      · rw [hT] at z0 z2
        simp only [enc, Option.getD_none, Option.isSome_none] at z0 z2
        have E := Lib.hid (bestOut_none hT)
        clear hT
        go_wp2_with fail
        (first | go_returns | (refine bodyPost_ret (by simp [results, Try.results35, go_sem, *]; try rfl) rfl ?_))
        exact ⟨none, 0, by rw [HE.out, E.out]; rfl, by rw [HE.out, E.out]; exact ⟨rfl, .inl ⟨rfl, rfl⟩⟩, below_then (Nat.le_refl _) hB1 hbel⟩
      · obtain ⟨v, f⟩ := p
        rw [hT] at z0 z2
        simp only [enc, Option.getD_some, Option.isSome_some] at z0 z2
        have HEE := Lib.hid (bestOut_some hT)
        obtain ⟨X, hX⟩ : ∃ X, ints (Dp.path (pageC xs h) n) = X := ⟨_, rfl⟩
        have HX := Lib.hid hX
        have HT := Lib.hid hT
        have hBo := below_then (Nat.le_refl _) hB1 hbel
        have hE2 := Lib.hid (hE1.out.then_ hbel)
        clear hT hX
        go_wp2_with fail
        go_loopg [7, 15] n (fun k ov pv wi => ∃ (p q d g : Nat) (L : List Int), k = p ∧ p ≤ n ∧ pv = .int .i64 p ∧ ov = .slice (some ⟨g, 0, none⟩) q d ∧ q + p ≤ n ∧ Hid (∃ u f, Dp.tbl (pageC xs h) p = some (u, f)) ∧ Hid (ints (Dp.path (pageC xs h) p) ++ L = X) ∧ Hid (OwnI wi w.heap.size (some ⟨g, 0, none⟩) q d L) ∧ Below wo.heap.size wo wi)
        case atStart => exact ⟨n, 0, 0, w.heap.size, [], rfl, Nat.le_refl _, rfl, rfl, by omega, ⟨v, f, HT.out⟩, (by show _ = _; rw [List.append_nil]; exact HX.out), hE2.out, Below.refl _ _⟩
        case round =>
          obtain ⟨p, q, d, g0, L, hk, hpn, rfl, rfl, hqp, htb, hpath, hownl, hbl⟩ := hrel
          have HK := Lib.hid hk; clear hk
          have hszl := hbl.size
          have hBl := below_then (Nat.le_refl _) hBo hbl
          have hst := ob.out.then_ hbl
          by_cases hp : 0 < p
          · have hp' : (0 : Int) < (p : Int) := by omega
            have hpi : (p : Int) < (n : Int) + 1 := by omega
            obtain ⟨u, g, hug⟩ := htb.out
            obtain ⟨hgp, u2, g2, _, hug2, _⟩ := Dp.tbl_some hp hug
            have hpp := hpath.out
            rw [Dp.path_pos hp hug, ints, List.map_append, List.append_assoc] at hpp
            have k1 := hst.cell1 (i := p) (by omega)
            rw [encK_lt (by omega), hug] at k1
            simp only [enc, Option.getD_some] at k1
            have HO := Lib.hid (one_own wr 3 (.int .i64 (p : Int)))
            have HO2 := Lib.hid (OwnI.alloc hownl.out (.cells #[.int .i64 (p : Int)] 3))
            have HS := Lib.hid (show wr.heap.size ≤ (wr.alloc (.cells #[.int .i64 (p : Int)] 3)).heap.size by simp)
            have hgl2 := hst.lt
            have K4 : ∀ w4, (wr.alloc (.cells #[.int .i64 (p : Int)] 3)).grownBy w4 (some wr.heap.size) → w4.cell? ⟨w1.heap.size + 1, p, none⟩ = some (.int .i64 (g : Int)) ∧ Below wo.heap.size wo w4 := fun w4 hg => by
              refine ⟨hg.cell ((World.cell?_alloc_lt wr _ ⟨w1.heap.size + 1, p, none⟩ hgl2).trans k1) (fun e => by injection e with e; simp only at e; omega), ?_⟩
              exact (hbl.alloc (by omega) _).grown hg (by simp; omega) (fun k hk => by injection hk; omega)
            have HK4 := Lib.hid K4
            have HP := Lib.hid hpp
            have HG := Lib.hid hug2
            clear k1 K4 hpp hug hug2 hst htb
            go_wp2_with (at_builtin; (refine wpList_append_two _ rfl _ _ 37 rfl wr.heap.size 3 j0 _ 1 8 Try.underlying37 ji jz0 jz1 jz2 rfl (by omega) wr.heap.size 1 1 [.int .i64 (p : Int)] rfl HO.out g0 q d w.heap.size (inl L) rfl HO2.out (inl_one _) (by omega) (by omega) HS.out ?_); intro g' d' w4 hown4 hgr4; have HO4 := Lib.hid hown4; obtain ⟨k4, hbp4⟩ := HK4.out w4 hgr4; clear hown4 hgr4)
            go_roundg g
            case measure => have := HK.out; omega
            case rel =>
              refine ⟨g, 1 + q, d', g', (p : Int) :: L, rfl, by omega, rfl, by go_num, by omega, ⟨u2, g2, HG.out⟩, ?_, ?_, hbp4⟩
              · show _ = _
                exact HP.out
              · show OwnI w4 w.heap.size (some ⟨g', 0, none⟩) (1 + q) d' ((p : Int) :: L)
                exact OwnI.mono (base := wr.heap.size) HO4.out (by omega)
          · obtain rfl : p = 0 := by omega
            have hfin : L = X := by have := hpath.out; rwa [Dp.path_zero] at this
            have hlen := hownl.out.len
            have z4 := (oa.out.then_ hbl).cell1 (i := n) (by omega)
            rw [encK_lt (by omega), HT.out] at z4
            simp only [enc, Option.getD_some] at z4
            have HF := Lib.hid hfin
            have HLEN := Lib.hid hlen
            have hni' : (n : Int) < (n : Int) + 1 := by omega
            clear hfin hst htb hlen
            go_wp2_with fail
            go_quiet (fail)
            go_wp2_with fail
            (first | go_returns | (refine bodyPost_ret (by simp [results, Try.results35, go_sem, *]; try rfl) rfl ?_))
            have hq : X.length = q := by rw [← HF.out, HLEN.out]
            refine ⟨some ⟨g0, 0, none⟩, d, by rw [HE.out, HEE.out, HX.out]; show _ = Ending.returned (.tuple #[.slice (some ⟨g0, 0, none⟩) X.length d, .int .i64 v, .bool true]); rw [hq]; rfl, ?_, by (repeat' (first | (with_reducible exact Below.refl _ _) | (with_reducible assumption) | (with_reducible refine Below.alloc ?_ ?_ _) | (with_reducible refine Below.drew ?_) | (with_reducible refine below_drewN ?_ _) | (with_reducible refine Below.setCell ?_ ?_ _) | (with_reducible refine below_then ?_ ?_ (by with_reducible assumption)) | (with_reducible exact Nat.le_refl _) | go_size | (simp only [*]; done)))⟩
            rw [HE.out, HEE.out, HX.out]
            show OwnI _ w.heap.size (some ⟨g0, 0, none⟩) X.length d X
            rw [hq, ← HF.out]
            exact hownl.out.drewN _
end Go.Proofs.Yticdgpgbpgjnbaa
