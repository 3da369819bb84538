/- StackBox of the program and of the reference returns what the plain function says. Conditions: the slice reads as the list. -/
import Derived.Test.YtdbjjfjagalhbaaBoxList
import Derived.Deep.RegionHeld3
import Derived.Test.YtdbjjfjagalhbaaQuietTail
namespace Go.Proofs.Ytdbjjfjagalhbaa
open Go.RowKit

set_option maxHeartbeats 1000000 in
theorem stack_s (A : Option Addr) (n cap : Nat) (s : Int) (xs : List Bx) (w : World) (hn : xs.length = n) (hm : n ≤ maxLen) (hr : Row w w.heap.size 3 A n (bxc xs)) (hv : boxesOk xs = true) (hs : inR s 0 10000 = true) :
    Calls Try.prog 48 #[.slice A n cap, .int .i64 s] w fun e w' => e = .returned (.agg #[.int .i64 ((stackF s xs)).w, .int .i64 ((stackF s xs)).h, .int .i64 ((stackF s xs)).d]) ∧ Below w.heap.size w w' := by
  unfold maxLen at hm
  obtain ⟨hs1, hs2⟩ := inR_iff.1 hs
  have HN := Lib.hid hn; clear hn
  have HV := Lib.hid hv; clear hv hs
  go_enter Try.func48, Try.ntmps48
  go_wp2_with fail
  go_loopg [6] n (fun k i wr => ∃ (j : Nat) (a : Bx), j ≤ n ∧ k = n - j ∧ i = .int .i64 j ∧ Hid (stackF s (xs.take j) = a) ∧ Hid (Blk wr w.heap.size 25 #[.int .i64 0, .int .i64 0, .int .i64 0]) ∧ Hid (Blk wr (w.heap.size + 1) 25 #[.int .i64 a.w, .int .i64 a.h, .int .i64 a.d]) ∧ Below w.heap.size w wr)
  case atStart => exact ⟨0, ⟨0, 0, 0⟩, Nat.zero_le _, rfl, rfl, rfl, (Blk.new _ _ _).alloc _, Blk.new_at _ _ _ _ (by simp), by (repeat' (first | (with_reducible exact Below.refl _ _) | (with_reducible assumption) | (with_reducible refine Below.alloc ?_ ?_ _) | (with_reducible refine Below.drew ?_) | (with_reducible refine below_drewN ?_ _) | (with_reducible refine Below.setCell ?_ ?_ _) | (with_reducible refine below_then ?_ ?_ (by with_reducible assumption)) | (with_reducible exact Nat.le_refl _) | go_size | (simp only [*]; done)))⟩
  case round =>
    obtain ⟨j, a, hj, hk, rfl, ha, hb0, hb1, hbel⟩ := hrel
    have HK := Lib.hid hk; clear hk
    have hsz := hbel.size
    obtain ⟨⟨g1, g2⟩, ⟨g3, g4⟩, g5, g6⟩ := stackF_bound HV.out hs2 j (by rw [HN.out]; exact hj) ha.out
    have hn20 : n ≤ 20 := by have := (boxesOk_iff.1 HV.out).2; rw [HN.out] at this; exact this
    have rlt := hb0.out.lt
    have rc0 := hb0.out.cell 0; have rf0 := hb0.out.frozen 0
    have rc1 := hb0.out.cell 1; have rf1 := hb0.out.frozen 1
    have rc2 := hb0.out.cell 2; have rf2 := hb0.out.frozen 2
    simp only [List.getElem?_toArray, List.getElem?_cons_zero, List.getElem?_cons_succ] at rc0 rc1 rc2
    have olt := hb1.out.lt
    have oc0 := hb1.out.cell 0; have of0 := hb1.out.frozen 0
    have oc1 := hb1.out.cell 1; have of1 := hb1.out.frozen 1
    have oc2 := hb1.out.cell 2; have of2 := hb1.out.frozen 2
    simp only [List.getElem?_toArray, List.getElem?_cons_zero, List.getElem?_cons_succ] at oc0 oc1 oc2
    by_cases hlt : j < n
    · obtain ⟨⟨g7, g8⟩, ⟨g9, g10⟩, g11, g12⟩ := boxesOk_at HV.out (k := j) (by rw [HN.out]; exact hlt) rfl
      by_cases hj0 : 0 < j
      · obtain ⟨b, off, rfl, hb, hc⟩ := hr (by omega)
        have c0 : wr.cell? ⟨b, off + j * 3, none⟩ = _ := (hbel.cell (p := ⟨b, off + j * 3, none⟩) hb).trans (hc j 0 hlt (by omega))
        have c1 : wr.cell? ⟨b, off + j * 3 + 1, none⟩ = _ := (hbel.cell (p := ⟨b, off + j * 3 + 1, none⟩) hb).trans (hc j 1 hlt (by omega))
        have c2 : wr.cell? ⟨b, off + j * 3 + 2, none⟩ = _ := (hbel.cell (p := ⟨b, off + j * 3 + 2, none⟩) hb).trans (hc j 2 hlt (by omega))
        obtain ⟨x, hx⟩ : ∃ x, xs.getD j default = x := ⟨_, rfl⟩
        simp only [bxc, hx] at c0 c1 c2
        have Hx := Lib.hid hx; clear hx hc
        rw [Hx.out] at g7 g8 g9 g10 g11 g12
        obtain ⟨_, _, e1, hb', hc'⟩ := hr (by omega)
        cases e1
        have d0 : wr.cell? ⟨b, off + (j - 1) * 3, none⟩ = _ := (hbel.cell (p := ⟨b, off + (j - 1) * 3, none⟩) hb).trans (hc' (j - 1) 0 (by omega) (by omega))
        have d1 : wr.cell? ⟨b, off + (j - 1) * 3 + 1, none⟩ = _ := (hbel.cell (p := ⟨b, off + (j - 1) * 3 + 1, none⟩) hb).trans (hc' (j - 1) 1 (by omega) (by omega))
        have d2 : wr.cell? ⟨b, off + (j - 1) * 3 + 2, none⟩ = _ := (hbel.cell (p := ⟨b, off + (j - 1) * 3 + 2, none⟩) hb).trans (hc' (j - 1) 2 (by omega) (by omega))
        obtain ⟨y, hy⟩ : ∃ y, xs.getD (j - 1) default = y := ⟨_, rfl⟩
        simp only [bxc, hy] at d0 d1 d2
        have Hy := Lib.hid hy; clear hy hc'
        go_wp2_with fail
        obtain ⟨⟨g13, g14⟩, ⟨g15, g16⟩, g17, g18⟩ := boxesOk_at HV.out (k := j - 1) (by rw [HN.out]; omega) Hy.out
        obtain ⟨i1, i2⟩ := interl_bound (s := s) g17 g9 hs2
        have k1 : (1 : Int) ≤ (j : Int) := by omega
        have k2 : (j : Int) - 1 < (n : Int) := by omega
        have k3 : (j : Int) < (n : Int) := by omega
        have hne : ¬ b = w.heap.size + 1 := by omega
        have hbw : b < wr.heap.size := by omega
        go_region
        all_goals go_wp2_with fail
        all_goals
          have u0 : ((j : Int) - 1).toNat = j - 1 := by omega
          have u1 : IntKind.i64.wrap ((j : Int) - 1) = (j : Int) - 1 := IntWalk.i64_in _ (by omega)
          have u2 : IntKind.i64.wrap (a.h + y.d) = a.h + y.d := IntWalk.i64_in _ (by omega)
          have u3 : IntKind.i64.wrap (a.h + y.d + interl y.d x.h s) = a.h + y.d + interl y.d x.h s := IntWalk.i64_in _ (by omega)
          obtain ⟨C, hC⟩ : ∃ C : World → Prop, ∀ w', C w' ↔ (w'.cell? ⟨w.heap.size + 1, 1, none⟩ = some (.int .i64 a.h) ∧ w'.frozen? ⟨w.heap.size + 1, 1, none⟩ = false ∧ w'.cell? ⟨b, off + (j - 1) * 3, none⟩ = some (.int .i64 y.w) ∧ w'.cell? ⟨b, off + (j - 1) * 3 + 1, none⟩ = some (.int .i64 y.h) ∧ w'.cell? ⟨b, off + (j - 1) * 3 + 2, none⟩ = some (.int .i64 y.d) ∧ w'.cell? ⟨b, off + j * 3, none⟩ = some (.int .i64 x.w) ∧ w'.cell? ⟨b, off + j * 3 + 1, none⟩ = some (.int .i64 x.h) ∧ w'.cell? ⟨b, off + j * 3 + 2, none⟩ = some (.int .i64 x.d) ∧ Hid (Blk w' w.heap.size 25 #[.int .i64 0, .int .i64 0, .int .i64 0]) ∧ Hid (Blk w' (w.heap.size + 1) 25 #[.int .i64 (max a.w x.w), .int .i64 a.h, .int .i64 a.d]) ∧ Below w.heap.size w w' ∧ wr.heap.size ≤ w'.heap.size) := ⟨_, fun _ => Iff.rfl⟩
          have HC := Lib.hid hC; clear hC
          refine region_quiet_tail C 22 (by kernel_rfl) (by kernel_rfl) ?_ ?_
          · refine (HC.out _).2 ⟨?_, ?_, ?_, ?_, ?_, ?_, ?_, ?_, ?_, ?_, ?_, ?_⟩
            · simp [go_sem]; exact oc1
            · simp [go_sem]; exact of1
            · simp [go_sem, hne]; exact d0
            · simp [go_sem, hne]; exact d1
            · simp [go_sem, hne]; exact d2
            · simp [go_sem, hne]; exact c0
            · simp [go_sem, hne]; exact c1
            · simp [go_sem, hne]; exact c2
            · ((show Blk _ _ _ _); repeat' (first | (with_reducible exact hb0.out) | (with_reducible refine Blk.alloc ?_ _) | (with_reducible refine Blk.drew ?_) | (with_reducible refine Blk.drewN ?_ _) | (with_reducible refine Blk.far ?_ ?_ _) | (with_reducible refine Blk.then_ ?_ (by with_reducible assumption)) | (simp; done) | (simp; omega) | omega))
            · ((show Blk _ _ _ _); apply Blk.eq; (case h => (repeat' (first | (with_reducible exact hb1.out) | (with_reducible apply Blk.alloc) | (with_reducible apply Blk.drew) | (with_reducible apply Blk.drewN) | (with_reducible apply Blk.set_) | (with_reducible apply Blk.far) | (with_reducible apply Blk.then_; rotate_left; with_reducible assumption) | (simp; done) | (simp; omega) | omega))); (case e => (first | (simp [Nat.zero_add]; done) | (simp [Nat.zero_add]; omega))))
            · (repeat' (first | (with_reducible exact Below.refl _ _) | (with_reducible assumption) | (with_reducible refine Below.alloc ?_ ?_ _) | (with_reducible refine Below.drew ?_) | (with_reducible refine below_drewN ?_ _) | (with_reducible refine Below.setCell ?_ ?_ _) | (with_reducible refine below_then ?_ ?_ (by with_reducible assumption)) | (with_reducible exact Nat.le_refl _) | go_size | (simp only [*]; done)))
            · simp
          simp only [List.take_succ_cons, List.take_zero, List.drop_succ_cons, List.drop_zero]
          generalize (List.toArray _ : Array Oper) = OPS
          iterate 22
            refine wpQuiet_step (fun K hK => ?_)
            rw [if_pos (by simp [Region.wanted])]
            apply Exists.intro
            refine ⟨fun w' hw' => ?_, hK _ ?_⟩
            · obtain ⟨z1, z2, z3, z4, z5, z6, z7, z8, z9, z10, z11, z12⟩ := (HC.out _).1 hw'
              go_simp
              first | (with_reducible rfl) | (go_at_call 37; (with_reducible refine (interline_s _ _ _ _ _ _ _ g17 g18 g9 g10 hs1 hs2 _).mono ?_); rintro e w2 ⟨rfl, hb2⟩; refine ⟨rfl, (HC.out _).2 ?_⟩; have hbz : b < w'.heap.size := (by omega); have holt : w.heap.size + 1 < w'.heap.size := (by omega); exact ⟨(hb2.cell (p := ⟨w.heap.size + 1, 1, none⟩) holt).trans z1, (hb2.frozen (p := ⟨w.heap.size + 1, 1, none⟩) holt).trans z2, (hb2.cell (p := ⟨b, off + (j - 1) * 3, none⟩) hbz).trans z3, (hb2.cell (p := ⟨b, off + (j - 1) * 3 + 1, none⟩) hbz).trans z4, (hb2.cell (p := ⟨b, off + (j - 1) * 3 + 2, none⟩) hbz).trans z5, (hb2.cell (p := ⟨b, off + j * 3, none⟩) hbz).trans z6, (hb2.cell (p := ⟨b, off + j * 3 + 1, none⟩) hbz).trans z7, (hb2.cell (p := ⟨b, off + j * 3 + 2, none⟩) hbz).trans z8, z9.out.then_ hb2, z10.out.then_ hb2, below_then (by omega) z11 hb2, Nat.le_trans z12 hb2.size⟩)
            clear hK K
            conv => arg 6; simp only [Act.put, List.setIfInBounds_toArray, List.set_cons_succ, List.set_cons_zero]
          refine wpQuiet_nil ?_
          intro w2 hw2
          obtain ⟨z1, z2, z3, z4, z5, z6, z7, z8, z9, z10, z11, z12⟩ := (HC.out _).1 hw2
          have rrlt := z9.out.lt
          have rrc0 := z9.out.cell 0; have rrf0 := z9.out.frozen 0
          have rrc1 := z9.out.cell 1; have rrf1 := z9.out.frozen 1
          have rrc2 := z9.out.cell 2; have rrf2 := z9.out.frozen 2
          simp only [List.getElem?_toArray, List.getElem?_cons_zero, List.getElem?_cons_succ] at rrc0 rrc1 rrc2
          have plt := z10.out.lt
          have pc0 := z10.out.cell 0; have pf0 := z10.out.frozen 0
          have pc1 := z10.out.cell 1; have pf1 := z10.out.frozen 1
          have pc2 := z10.out.cell 2; have pf2 := z10.out.frozen 2
          simp only [List.getElem?_toArray, List.getElem?_cons_zero, List.getElem?_cons_succ] at pc0 pc1 pc2
          have hzz := z11.size
          clear rc0 rc1 rc2 rf0 rf1 rf2 oc0 oc1 oc2 of0 of1 of2 c0 c1 c2 d0 d1 d2
          go_wp2_with fail
          go_region
          go_wp2_with fail
          go_roundg (n - (j + 1))
          case measure => have := HK.out; omega
          case rel =>
            have hyd : y.d = a.d := by
              have h1 := stackF_d s xs (j - 1) (by rw [HN.out]; omega)
              rw [show j - 1 + 1 = j from by omega, ha.out, Hy.out] at h1
              exact h1.symm
            refine ⟨j + 1, _, by omega, rfl, by go_num, stackF_next s xs j (by rw [HN.out]; exact hlt) hj0 ha.out Hx.out, ?_, ?_, by (repeat' (first | (with_reducible exact Below.refl _ _) | (with_reducible assumption) | (with_reducible refine Below.alloc ?_ ?_ _) | (with_reducible refine Below.drew ?_) | (with_reducible refine below_drewN ?_ _) | (with_reducible refine Below.setCell ?_ ?_ _) | (with_reducible refine below_then ?_ ?_ (by with_reducible assumption)) | (with_reducible exact Nat.le_refl _) | go_size | (simp only [*]; done)))⟩
            · ((show Blk _ _ _ _); repeat' (first | (with_reducible exact z9.out) | (with_reducible refine Blk.alloc ?_ _) | (with_reducible refine Blk.drew ?_) | (with_reducible refine Blk.drewN ?_ _) | (with_reducible refine Blk.far ?_ ?_ _) | (with_reducible refine Blk.then_ ?_ (by with_reducible assumption)) | (simp; done) | (simp; omega) | omega))
            · ((show Blk _ _ _ _); apply Blk.eq; (case h => (repeat' (first | (with_reducible exact z10.out) | (with_reducible apply Blk.alloc) | (with_reducible apply Blk.drew) | (with_reducible apply Blk.drewN) | (with_reducible apply Blk.set_) | (with_reducible apply Blk.far) | (with_reducible apply Blk.then_; rotate_left; with_reducible assumption) | (simp; done) | (simp; omega) | omega))); (case e => (first | (simp [hyd]; done) | (simp [hyd]; omega))))
      · obtain ⟨b, off, rfl, hb, hc⟩ := hr (by omega)
        have c0 : wr.cell? ⟨b, off + j * 3, none⟩ = _ := (hbel.cell (p := ⟨b, off + j * 3, none⟩) hb).trans (hc j 0 hlt (by omega))
        have c1 : wr.cell? ⟨b, off + j * 3 + 1, none⟩ = _ := (hbel.cell (p := ⟨b, off + j * 3 + 1, none⟩) hb).trans (hc j 1 hlt (by omega))
        have c2 : wr.cell? ⟨b, off + j * 3 + 2, none⟩ = _ := (hbel.cell (p := ⟨b, off + j * 3 + 2, none⟩) hb).trans (hc j 2 hlt (by omega))
        obtain ⟨x, hx⟩ : ∃ x, xs.getD j default = x := ⟨_, rfl⟩
        simp only [bxc, hx] at c0 c1 c2
        have Hx := Lib.hid hx; clear hx hc
        rw [Hx.out] at g7 g8 g9 g10 g11 g12
        go_wp2_with fail
        go_region
        all_goals go_wp2_with fail
        all_goals go_region
        all_goals go_wp2_with fail
        all_goals
          go_roundg (n - (j + 1))
          case measure => have := HK.out; omega
          case rel =>
            obtain rfl : j = 0 := by omega
            have ea1 : a.w = 0 := by rw [← ha.out]; rfl
            have ea2 : a.h = 0 := by rw [← ha.out]; rfl
            refine ⟨0 + 1, ⟨max 0 x.w, x.h, x.d⟩, by omega, rfl, by go_num, stackF_first s xs (by rw [HN.out]; exact hlt) Hx.out, ?_, ?_, by (repeat' (first | (with_reducible exact Below.refl _ _) | (with_reducible assumption) | (with_reducible refine Below.alloc ?_ ?_ _) | (with_reducible refine Below.drew ?_) | (with_reducible refine below_drewN ?_ _) | (with_reducible refine Below.setCell ?_ ?_ _) | (with_reducible refine below_then ?_ ?_ (by with_reducible assumption)) | (with_reducible exact Nat.le_refl _) | go_size | (simp only [*]; done)))⟩
            · ((show Blk _ _ _ _); repeat' (first | (with_reducible exact hb0.out) | (with_reducible refine Blk.alloc ?_ _) | (with_reducible refine Blk.drew ?_) | (with_reducible refine Blk.drewN ?_ _) | (with_reducible refine Blk.far ?_ ?_ _) | (with_reducible refine Blk.then_ ?_ (by with_reducible assumption)) | (simp; done) | (simp; omega) | omega))
            · ((show Blk _ _ _ _); apply Blk.eq; (case h => (repeat' (first | (with_reducible exact hb1.out) | (with_reducible apply Blk.alloc) | (with_reducible apply Blk.drew) | (with_reducible apply Blk.drewN) | (with_reducible apply Blk.set_) | (with_reducible apply Blk.far) | (with_reducible apply Blk.then_; rotate_left; with_reducible assumption) | (simp; done) | (simp; omega) | omega))); (case e => (first | (simp [ea1, ea2]; done) | (simp [ea1, ea2]; omega))))
    · go_wp2_with fail
      (first | go_returns | (refine bodyPost_ret (by simp [results, Try.results48, go_sem, *]; try rfl) rfl ?_))
      have ej : j = n := by omega
      subst ej
      have e : stackF s xs = a := by rw [← ha.out, List.take_of_length_le (by rw [HN.out]; omega)]
      rw [e]
      exact ⟨rfl, by (repeat' (first | (with_reducible exact Below.refl _ _) | (with_reducible assumption) | (with_reducible refine Below.alloc ?_ ?_ _) | (with_reducible refine Below.drew ?_) | (with_reducible refine below_drewN ?_ _) | (with_reducible refine Below.setCell ?_ ?_ _) | (with_reducible refine below_then ?_ ?_ (by with_reducible assumption)) | (with_reducible exact Nat.le_refl _) | go_size | (simp only [*]; done)))⟩

theorem stackBox_s (A : Option Addr) (n cap : Nat) (s : Int) (xs : List Bx) (w : World) (hn : xs.length = n) (hm : n ≤ maxLen) (hr : Row w w.heap.size 3 A n (bxc xs)) :
    Calls Try.prog 31 #[.slice A n cap, .int .i64 s] w fun e w' => e = .returned (.tuple #[.agg #[.int .i64 ((stackB xs s).1).w, .int .i64 ((stackB xs s).1).h, .int .i64 ((stackB xs s).1).d], .bool (stackB xs s).2]) ∧ Below w.heap.size w w' := by
  have HN := Lib.hid hn; clear hn
  rcases hv : boxesOk xs with _ | _
  · have hx : stackB xs s = (⟨0, 0, 0⟩, false) := by simp only [stackB, hv]; rfl
    rw [hx]; clear hx
    go_enter Try.func31, Try.ntmps31
    go_wp2_with (go_at_call 43; refine (validBoxes_s _ _ _ xs _ HN.out hm (hr.alloc' _)).mono ?_; rintro e w1 ⟨rfl, hb⟩; (have hz := hb.size; (try simp at hz); obtain ⟨hc, hf⟩ := bcell hb; (try have hzw0 : w.heap.size < w1.heap.size := by omega); (try have hzw1 : w.heap.size + 1 < w1.heap.size := by omega); (try have hzw2 : w.heap.size + 2 < w1.heap.size := by omega); (try have hzw3 : w.heap.size + 3 < w1.heap.size := by omega)))
    (first | go_returns | (refine bodyPost_ret (by simp [results, Try.results31, go_sem, *]; try rfl) rfl ?_))
    exact ⟨rfl, by (repeat' (first | (with_reducible exact Below.refl _ _) | (with_reducible assumption) | (with_reducible refine Below.alloc ?_ ?_ _) | (with_reducible refine Below.drew ?_) | (with_reducible refine below_drewN ?_ _) | (with_reducible refine Below.setCell ?_ ?_ _) | (with_reducible refine below_then ?_ ?_ (by with_reducible assumption)) | (with_reducible exact Nat.le_refl _) | go_size | (simp only [*]; done)))⟩
  have HV := Lib.hid hv
  rcases hs : inR s 0 10000 with _ | _
  · have hx : stackB xs s = (⟨0, 0, 0⟩, false) := by simp only [stackB, hv, hs]; rfl
    rw [hx]; clear hx
    go_enter Try.func31, Try.ntmps31
    go_wp2_with (first | (go_at_call 43; refine (validBoxes_s _ _ _ xs _ HN.out hm (hr.alloc' _)).mono ?_; rintro e w1 ⟨rfl, hb⟩; (have hz := hb.size; (try simp at hz); obtain ⟨hc, hf⟩ := bcell hb; (try have hzw0 : w.heap.size < w1.heap.size := by omega); (try have hzw1 : w.heap.size + 1 < w1.heap.size := by omega); (try have hzw2 : w.heap.size + 2 < w1.heap.size := by omega); (try have hzw3 : w.heap.size + 3 < w1.heap.size := by omega))) | (go_at_call 36; refine (inRange_any _ _ _ _).mono ?_; rintro e w' ⟨rfl, rfl⟩))
    (first | go_returns | (refine bodyPost_ret (by simp [results, Try.results31, go_sem, *]; try rfl) rfl ?_))
    exact ⟨rfl, by (repeat' (first | (with_reducible exact Below.refl _ _) | (with_reducible assumption) | (with_reducible refine Below.alloc ?_ ?_ _) | (with_reducible refine Below.drew ?_) | (with_reducible refine below_drewN ?_ _) | (with_reducible refine Below.setCell ?_ ?_ _) | (with_reducible refine below_then ?_ ?_ (by with_reducible assumption)) | (with_reducible exact Nat.le_refl _) | go_size | (simp only [*]; done)))⟩
  · have hx : stackB xs s = chk (stackF s xs) := by simp only [stackB, hv, hs]; rfl
    rw [hx]; clear hx
    have HS := Lib.hid hs
    go_enter Try.func31, Try.ntmps31
    go_wp2_with fail
    ((with_reducible refine (validBoxes_s _ _ _ xs _ HN.out hm ?_).mono ?_); (exact hr.alloc' _); rintro e w1 ⟨rfl, hb⟩)
    (have hz := hb.size; (try simp at hz); obtain ⟨hc, hf⟩ := bcell hb; (try have hzw0 : w.heap.size < w1.heap.size := by omega); (try have hzw1 : w.heap.size + 1 < w1.heap.size := by omega); (try have hzw2 : w.heap.size + 2 < w1.heap.size := by omega); (try have hzw3 : w.heap.size + 3 < w1.heap.size := by omega))
    have hr1 := Lib.hid ((hr.alloc' _).then_ hb)
    clear hr
    rw [HV.out]
    go_wp2_with (go_at_call 36; refine (inRange_any _ _ _ _).mono ?_; rintro e w' ⟨rfl, rfl⟩)
    ((with_reducible refine (stack_s _ _ _ _ xs _ HN.out hm ?_ HV.out HS.out).mono ?_); (exact hr1.out); rintro e w2 ⟨rfl, hb2⟩)
    have hz_w_0_w2 : w.heap.size < w2.heap.size := by have := hb2.size; omega
    obtain ⟨hc2, hf2⟩ := bcell hb2
    go_wp2_with fail
    ((with_reducible refine (checked_s _ _ _ _).mono ?_); rintro e w3 ⟨rfl, hb3⟩)
    have hz_w_0_w3 : w.heap.size < w3.heap.size := by have := hb3.size; omega
    obtain ⟨hc3, hf3⟩ := bcell hb3
    go_wp2
    (first | go_returns | (refine bodyPost_ret (by simp [results, Try.results31, go_sem, *]; try rfl) rfl ?_))
    exact ⟨rfl, by (repeat' (first | (with_reducible exact Below.refl _ _) | (with_reducible assumption) | (with_reducible refine Below.alloc ?_ ?_ _) | (with_reducible refine Below.drew ?_) | (with_reducible refine below_drewN ?_ _) | (with_reducible refine Below.setCell ?_ ?_ _) | (with_reducible refine below_then ?_ ?_ (by with_reducible assumption)) | (with_reducible exact Nat.le_refl _) | go_size | (simp only [*]; done)))⟩
end Go.Proofs.Ytdbjjfjagalhbaa
