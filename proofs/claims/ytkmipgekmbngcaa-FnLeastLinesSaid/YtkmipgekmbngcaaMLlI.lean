/- CheckShape of the reference returns what the plain function says. Conditions: the slices read as lists. -/
import Derived.Test.YtkmipgekmbngcaaMLlH
namespace Go.Proofs.Ytkmipgekmbngcaa
open Go.RowKit

theorem optV_eq (o : Option Int) : Ending.returned (optV o) = Ending.returned (.tuple #[.int .i64 (o.getD 0), .bool o.isSome]) := rfl
section
variable {xs : List It} {sh bs : List Int} {tol s c : Int} {j n m : Nat}
theorem lcV_some (d f t : Int) (h : lcV xs d tol f t = some c) : (itemsOk xs && inR tol 0 10000) = true ∧ lc xs d tol f t = some c := by
  rw [lcV] at h
  split at h
  · rename_i hg
    simp only [Bool.and_eq_true] at hg
    exact ⟨by rw [hg.1.1, hg.2]; rfl, h⟩
  · cases h
theorem chkV_bad (hn : bs.length = n) (hs : sumJ xs (wof sh) tol bs j = some s) (hj : j < n) (h : lcV xs (wof sh j) tol (frm bs j) (bs.getD j default) = none) : chkV xs sh tol bs = none := by
  rw [chkV]
  split
  · rename_i hg
    simp only [Bool.and_eq_true] at hg
    rw [lcV_yes hg.1.1 (inR_iff.2 (wof_bound hg.1.2 j)) hg.2] at h
    exact chk_none hn (sumJ_no1 hs h) hj
  · rfl
theorem frm_end (h : 0 < n) : frm bs n = bs.getD (n - 1) default := by rw [frm, if_neg (by omega)]
theorem chkV_zero (hn : bs.length = 0) : chkV xs sh tol bs = none := chkV_of_none (chk_zero hn)
theorem chkV_last (hn : bs.length = n) (hx : xs.length = m) (hp : 0 < n) {f : Int} (hf : frm bs n = f) (h : ¬ f = (m : Int) - 1) : chkV xs sh tol bs = none := by
  obtain ⟨k, rfl⟩ : ∃ k, n = k + 1 := ⟨n - 1, by omega⟩
  rw [frm_succ] at hf
  exact chkV_of_none (chk_last hn (by rw [hf, hx]; exact h))
theorem chkV_end (hn : bs.length = n) (hx : xs.length = m) (hp : 0 < n) (h0 : (itemsOk xs && inR tol 0 10000) = true) (h1 : shapeOk sh = true) (hs : sumJ xs (wof sh) tol bs n = some s) {f : Int} (hf : frm bs n = f) (h : f = (m : Int) - 1) : chkV xs sh tol bs = some s := by
  obtain ⟨k, rfl⟩ : ∃ k, n = k + 1 := ⟨n - 1, by omega⟩
  rw [frm_succ] at hf
  rw [Bool.and_eq_true] at h0
  rw [chkV_yes h0.1 h1 h0.2, chk_end hn (by rw [hf, hx]; exact h), hs]
end

set_option maxRecDepth 100000 in
set_option maxHeartbeats 8000000 in
theorem checkShape_s (A S B : Option Addr) (n cap ns capn nb capb : Nat) (tol : Int) (xs : List It) (sh bs : List Int) (w : World) (hn : xs.length = n) (hm : n ≤ maxLen) (hr : Row w w.heap.size 6 A n (itc xs))
    (hns : sh.length = ns) (hms : ns ≤ maxLen) (hrs : Row w w.heap.size 1 S ns (inc sh)) (hnb : bs.length = nb) (hmb : nb ≤ maxLen) (hrb : Row w w.heap.size 1 B nb (inc bs)) :
    Calls Try.prog 23 #[.slice A n cap, .slice S ns capn, .int .i64 tol, .slice B nb capb] w fun e w' => e = .returned (optV (chkV xs sh tol bs)) ∧ Below w.heap.size w w' := by
  have hm' := hm
  unfold maxLen at hmb hm'
  have HN := Lib.hid hn
  have HR := Lib.hid hr
  have HRS := Lib.hid hrs
  have HRB := Lib.hid hrb
  have HNS := Lib.hid hns
  have HNB := Lib.hid hnb
  clear hr hrs hrb hnb hn
  rcases hw : shapeOk sh with _ | _
  · have HE := Lib.hid (chkV_no2 (xs := xs) (tol := tol) (bs := bs) hw)
    have HW := Lib.hid hw
    clear hw hns
    go_enter Try.func23, Try.ntmps23
    go_wp2_with fail
    ((with_reducible refine (validShape_s _ _ _ sh _ HNS.out hms ?_).mono ?_); (exact HRS.out); rintro e w1 ⟨rfl, hb1⟩)
    rw [HW.out]
    go_wp2_with fail
    (first | go_returns | (refine bodyPost_ret (by simp [results, Try.results23, go_sem, *]; try rfl) rfl ?_))
    exact ⟨by rw [HE.out]; rfl, hb1⟩
  obtain ⟨l1, l2⟩ := shapeOk_len hw
  rw [hns] at l1 l2
  have HW := Lib.hid hw
  clear hw hns
  go_enter Try.func23, Try.ntmps23
  go_wp2_with fail
  ((with_reducible refine (validShape_s _ _ _ sh _ HNS.out hms ?_).mono ?_); (exact HRS.out); rintro e w1 ⟨rfl, hb1⟩)
  rw [HW.out]
  go_wp2_with fail
  go_loopg [10, 11, 12] nb (fun k sv fv i wr => ∃ (j : Nat) (s f : Int), j ≤ nb ∧ k = nb - j ∧ i = .int .i64 (j : Int) ∧ sv = .int .i64 s ∧ fv = .int .i64 f ∧ ((j : Int) ≤ f + 1 ∧ f ≤ 60 ∧ -200000000 * (j : Int) ≤ s ∧ s ≤ 200000000 * (j : Int)) ∧ Hid (0 < j → (itemsOk xs && inR tol 0 10000) = true) ∧ Hid (sumJ xs (wof sh) tol bs j = some s) ∧ Hid (frm bs j = f) ∧ Below w.heap.size w wr)
  case atStart => exact ⟨0, 0, -1, Nat.zero_le _, rfl, rfl, rfl, rfl, ⟨by omega, by omega, by omega, by omega⟩, fun h => absurd h (by omega), rfl, rfl, hb1⟩
  case round =>
    obtain ⟨j, s, f, hj, hk, rfl, rfl, rfl, ⟨j0, j1, s0, s1⟩, hg, hs, hf, hbel⟩ := hrel
    have HK := Lib.hid hk; clear hk
    have hsz := hbel.size
    by_cases hlt : j < nb
    · obtain ⟨b, off, rfl, hb, hc⟩ := HRB.out (by omega)
      obtain ⟨t, ht⟩ : ∃ t, bs.getD j default = t := ⟨_, rfl⟩
      have c0 : wr.cell? ⟨b, off + j, none⟩ = some (.int .i64 t) := by
        have := (hbel.cell (p := ⟨b, off + j, none⟩) hb).trans (by have := hc j 0 hlt (by omega); simpa only [inc, ht, Nat.mul_one, Nat.add_zero] using this)
        exact this
      have hjn : (j : Int) < (nb : Int) := by omega
      have HT := Lib.hid ht
      obtain ⟨o, ho⟩ : ∃ o, lcV xs (wof sh j) tol f t = o := ⟨_, rfl⟩
      have HO := Lib.hid ho
      clear ht hc ho
      go_wp2_with fail
      obtain ⟨C, hC⟩ : ∃ C : World → Prop, ∀ w', C w' ↔ Below wr.heap.size wr w' := ⟨_, fun _ => Iff.rfl⟩
      have HCC := Lib.hid hC; clear hC
      refine region_quiet_tail C 15 (by kernel_rfl) (by kernel_rfl) ?_ ?_
      · exact (HCC.out _).2 (Below.refl _ _).drew
      simp only [List.take_succ_cons, List.take_zero, List.drop_succ_cons, List.drop_zero]
      generalize (List.toArray _ : Array Oper) = OPS
      iterate 15
        refine wpQuiet_step (fun K hK => ?_)
        rw [if_pos (by simp [Region.wanted])]
        apply Exists.intro
        refine ⟨fun w' hw' => ?_, hK _ ?_⟩
        · have z0 := (HCC.out _).1 hw'
          have hB' := below_then (Nat.le_refl _) hbel z0
          have k0 : w'.cell? ⟨b, off + j, none⟩ = some (.int .i64 t) := (z0.cell (p := ⟨b, off + j, none⟩) (Nat.lt_of_lt_of_le hb hsz)).trans c0
          go_simp
          first | (with_reducible rfl) | (go_at_call 65; (with_reducible refine (widthOf_s _ _ _ j sh _ HNS.out l1 l2 (by omega) ((HRS.out.below hB').more hB'.size)).mono ?_); rintro e w2 ⟨rfl, hb2⟩; exact ⟨rfl, (HCC.out _).2 (below_then (Nat.le_refl _) z0 hb2)⟩) | (go_at_call 54; (with_reducible refine (lineCost_S _ _ _ _ _ _ _ xs _ HN.out hm ((HR.out.below hB').more hB'.size)).mono ?_); rintro e w2 ⟨rfl, hb2⟩; rw [HO.out]; exact ⟨optV_eq o, (HCC.out _).2 (below_then (Nat.le_refl _) z0 hb2)⟩)
        clear hK K
        conv => arg 6; simp only [Act.put, List.setIfInBounds_toArray, List.set_cons_succ, List.set_cons_zero]
      refine wpQuiet_nil ?_
      intro w2 hw2
      have hB2 := below_then (Nat.le_refl _) hbel ((HCC.out _).1 hw2)
      rcases o with _ | v
      · have HE := Lib.hid (chkV_bad HNB.out hs.out hlt (by rw [hf.out, HT.out]; exact HO.out))
        simp only [Option.getD_none, Option.isSome_none]
        go_wp2_with fail
        (first | go_returns | (refine bodyPost_ret (by simp [results, Try.results23, go_sem, *]; try rfl) rfl ?_))
        exact ⟨by rw [HE.out]; rfl, hB2⟩
      · obtain ⟨hg2, hlc⟩ := lcV_some _ _ _ HO.out
        have hok : itemsOk xs = true := by rw [Bool.and_eq_true] at hg2; exact hg2.1
        have hwj := wof_bound HW.out j
        obtain ⟨k1, k2, k3, k4, k5⟩ := lc_some hok HN.out hwj.1 hwj.2 hlc
        have h60 := (itemsOk_len hok HN.out).2
        have HS := Lib.hid (sumJ_yes hs.out (by rw [hf.out, HT.out]; exact hlc))
        have HG := Lib.hid hg2
        clear hg2 hlc hok hwj
        simp only [Option.getD_some, Option.isSome_some]
        have c2 := (((HCC.out _).1 hw2).cell (p := ⟨b, off + j, none⟩) (Nat.lt_of_lt_of_le hb hsz)).trans c0
        go_wp2_with fail
        go_roundg (nb - (j + 1))
        case measure => have := HK.out; omega
        case rel => exact ⟨j + 1, s + v, t, by omega, rfl, by go_num, rfl, rfl, ⟨by omega, by omega, by omega, by omega⟩, fun _ => HG.out, HS.out, by show _ = _; rw [frm_succ, HT.out], by (repeat' (first | (with_reducible exact Below.refl _ _) | (with_reducible assumption) | (with_reducible refine Below.alloc ?_ ?_ _) | (with_reducible refine Below.drew ?_) | (with_reducible refine below_drewN ?_ _) | (with_reducible refine Below.setCell ?_ ?_ _) | (with_reducible refine below_then ?_ ?_ (by with_reducible assumption)) | (with_reducible exact Nat.le_refl _) | go_size | (simp only [*]; done)))⟩
    · have ej : j = nb := by omega
      subst ej
      by_cases hz : j = 0
      · subst hz
        have HE := Lib.hid (chkV_zero (xs := xs) (sh := sh) (tol := tol) HNB.out)
        go_wp2_with fail
        (first | go_returns | (refine bodyPost_ret (by simp [results, Try.results23, go_sem, *]; try rfl) rfl ?_))
        exact ⟨by rw [HE.out]; rfl, hbel⟩
      have hzf : ((j : Int) == 0) = false := by simpa using hz
      by_cases hq : f = (n : Int) - 1
      · have HE := Lib.hid (chkV_end HNB.out HN.out (by omega) (hg.out (by omega)) HW.out hs.out hf.out hq)
        have hqf : (f == (n : Int) - 1) = true := by simpa using hq
        go_wp2_with fail
        (first | go_returns | (refine bodyPost_ret (by simp [results, Try.results23, go_sem, *]; try rfl) rfl ?_))
        exact ⟨by rw [HE.out]; rfl, hbel⟩
      · have HE := Lib.hid (chkV_last (sh := sh) (tol := tol) HNB.out HN.out (by omega) hf.out hq)
        have hqf : (f == (n : Int) - 1) = false := by simpa using hq
        go_wp2_with fail
        (first | go_returns | (refine bodyPost_ret (by simp [results, Try.results23, go_sem, *]; try rfl) rfl ?_))
        exact ⟨by rw [HE.out]; rfl, hbel⟩
end Go.Proofs.Ytkmipgekmbngcaa
/- CheckBreaks, of the program and of the reference, returns what CheckShape returns for a shape of one width. Conditions: the slices read as lists. -/
namespace Go.Proofs.Ytkmipgekmbngcaa
open Go.RowKit Go.Shelf

theorem shape_one (d : Int) : shapeOk [d] = widthOk d := by simp [shapeOk, inR]
theorem wof_one (d : Int) (k : Nat) : wof [d] k = d := by
  rw [wof]
  simp
theorem lcV_some_w {xs : List It} {d tol f t c : Int} (h : lcV xs d tol f t = some c) : widthOk d = true := by
  rcases hw : widthOk d with _ | _
  · rw [lcV_no2 hw] at h; cases h
  · rfl

theorem validBreaking_i (A : Option Addr) (n cap : Nat) (d tol : Int) (xs : List It) (w : World) (hn : xs.length = n) (hm : n ≤ maxLen) (hr : Row w w.heap.size 6 A n (itc xs)) :
    Calls Try.prog 52 #[.slice A n cap, .int .i64 d, .int .i64 tol] w fun e w' => e = .returned (.bool (itemsOk xs && widthOk d && inR tol 0 10000)) ∧ Below w.heap.size w w' := by
  obtain ⟨p, hp⟩ : ∃ p, itemsOk xs = p := ⟨_, rfl⟩
  obtain ⟨q, hq⟩ : ∃ q, widthOk d = q := ⟨_, rfl⟩
  obtain ⟨r, hr'⟩ : ∃ r, inR tol 0 10000 = r := ⟨_, rfl⟩
  rw [hp, hq, hr']
  have HP := Lib.hid hp
  have HQ : Hid (inR d 1 10000 = q) := hq
  have HR := Lib.hid hr'
  clear hp hq hr'
  rcases p with _ | _
  · go_enter Try.func52, Try.ntmps52
    go_wp2_with fail
    ((with_reducible refine (validItems_i _ _ _ xs _ hn hm ?_).mono ?_); (exact hr); rintro e w1 ⟨rfl, hb1⟩)
    rw [HP.out]
    go_wp2_with fail
    go_ret
    exact ⟨rfl, hb1⟩
  rcases q with _ | _
  · go_enter Try.func52, Try.ntmps52
    go_wp2_with fail
    ((with_reducible refine (validItems_i _ _ _ xs _ hn hm ?_).mono ?_); (exact hr); rintro e w1 ⟨rfl, hb1⟩)
    rw [HP.out]
    go_wp2_with fail
    ((with_reducible refine (within_any _ _ _ _).mono ?_); rintro e w' ⟨rfl, rfl⟩)
    rw [HQ.out]
    go_wp2_with fail
    go_ret
    exact ⟨rfl, hb1⟩
  · go_enter Try.func52, Try.ntmps52
    go_wp2_with fail
    ((with_reducible refine (validItems_i _ _ _ xs _ hn hm ?_).mono ?_); (exact hr); rintro e w1 ⟨rfl, hb1⟩)
    rw [HP.out]
    go_wp2_with fail
    ((with_reducible refine (within_any _ _ _ _).mono ?_); rintro e w' ⟨rfl, rfl⟩)
    rw [HQ.out]
    go_wp2_with fail
    ((with_reducible refine (within_any _ _ _ _).mono ?_); rintro e w' ⟨rfl, rfl⟩)
    rw [HR.out]
    go_wp2_with fail
    go_ret
    exact ⟨rfl, hb1⟩

theorem breakFn_i (g : Nat) (d : Int) (k : Nat) (w : World) (hg : Blk w g 3 #[.int .i64 d]) :
    Calls Try.prog 53 #[.int .i64 (k : Int), .pointer (some ⟨g, 0, none⟩)] w fun e w' => e = .returned (.int .i64 d) ∧ Below w.heap.size w w' := by
  have plt := hg.lt
  have pc0 := hg.cell 0; have pf0 := hg.frozen 0
  simp only [List.getElem?_toArray, List.getElem?_cons_zero, List.getElem?_cons_succ] at pc0
  go_enter Try.func53, Try.ntmps53
  go_wp2_with fail
  go_ret
  exact ⟨rfl, Below.refl _ _⟩

set_option maxRecDepth 100000 in
set_option maxHeartbeats 2000000 in
theorem checkBreaks_i (A B : Option Addr) (n cap nb capb : Nat) (d tol : Int) (xs : List It) (bs : List Int) (w : World) (hn : xs.length = n) (hm : n ≤ maxLen) (hcap : n ≤ cap ∧ cap ≤ maxLen) (hr : Row w w.heap.size 6 A n (itc xs))
    (hnb : bs.length = nb) (hmb : nb ≤ maxLen) (hrb : Row w w.heap.size 1 B nb (inc bs)) :
    Calls Try.prog 17 #[.slice A n cap, .int .i64 d, .int .i64 tol, .slice B nb capb] w fun e w' => e = .returned (optV (chkV xs [d] tol bs)) ∧ Below w.heap.size w w' := by
  have HR := Lib.hid hr
  have HRB := Lib.hid hrb
  have HNB := Lib.hid hnb
  have eg : ∀ args w, (callFunc 53 args).run Try.prog w = .ok (.enter 53 args) w := enters_of Try.func53 (by kernel_rfl) rfl
  have EG := Lib.hid eg
  have g0 := Blk.new w 3 #[.int .i64 d]
  have G0 := Lib.hid g0
  have hB0 : Below w.heap.size w (w.alloc (.cells #[.int .i64 d] 3)) := (Below.refl _ _).alloc (Nat.le_refl _) _
  clear eg hrb hnb
  rcases hv : (itemsOk xs && widthOk d && inR tol 0 10000) with _ | _
  · have HE := Lib.hid (show chkV xs [d] tol bs = none by rw [chkV, shape_one, hv]; rfl)
    have HV := Lib.hid hv
    have plt := g0.lt
    have pc0 := g0.cell 0; have pf0 := g0.frozen 0
    simp only [List.getElem?_toArray, List.getElem?_cons_zero, List.getElem?_cons_succ] at pc0
    clear hv g0
    go_enter Try.func17, Try.ntmps17
    go_wp2_with fail
    ((with_reducible refine (validBreaking_i _ _ _ _ _ xs _ hn hm ?_).mono ?_); (exact HR.out.then_ hB0); rintro e w1 ⟨rfl, hb1⟩)
    rw [HV.out]
    go_wp2_with fail
    (first | go_returns | (refine bodyPost_ret (by simp [results, Try.results17, go_sem, *]; try rfl) rfl ?_))
    exact ⟨by rw [HE.out]; rfl, below_then (Nat.le_refl _) hB0 hb1⟩
  have hfun : wof [d] = fun _ => d := funext fun k => wof_one d k
  have HE := Lib.hid (show chkV xs [d] tol bs = chkP xs (fun _ => d) tol bs by rw [chkV, shape_one, hv, hfun]; rfl)
  have HV := Lib.hid hv
  rw [Bool.and_eq_true, Bool.and_eq_true] at hv
  obtain ⟨⟨hv1, hv2⟩, _⟩ := hv
  have HV1 := Lib.hid hv1
  have hd := inR_iff.1 hv2
  have plt := g0.lt
  have pc0 := g0.cell 0; have pf0 := g0.frozen 0
  simp only [List.getElem?_toArray, List.getElem?_cons_zero, List.getElem?_cons_succ] at pc0
  clear hv1 hv2 g0 hfun
  go_enter Try.func17, Try.ntmps17
  go_wp2_with fail
  ((with_reducible refine (validBreaking_i _ _ _ _ _ xs _ hn hm ?_).mono ?_); (exact HR.out.then_ hB0); rintro e w1 ⟨rfl, hb1⟩)
  rw [HV.out]
  have g1 := G0.out.then_ hb1
  have hB1 := below_then (Nat.le_refl _) hB0 hb1
  go_wp2_with fail
  ((with_reducible refine (sumLines_i 53 #[.pointer (some ⟨w.heap.size, 0, none⟩)] _ _ _ _ _ _ xs bs (fun _ => d) _ _ EG.out HV1.out hn hcap ?_ HNB.out hmb ?_ (fun _ => hd) ?_).mono ?_); (exact HR.out.then_ hB1); (exact HRB.out.then_ hB1); rotate_left; rintro e w3 ⟨rfl, hb3⟩)
  · have hB3 := below_then (Nat.le_refl _) hB1 hb3
    go_wp2_with fail
    (first | go_returns | (refine bodyPost_ret (by simp [results, Try.results17, go_sem, *]; try rfl) rfl ?_))
    exact ⟨by rw [HE.out]; rfl, hB3⟩
  · intro k W hk hW
    exact breakFn_i _ _ k W (g1.then_ hW)

set_option maxRecDepth 100000 in
set_option maxHeartbeats 8000000 in
theorem checkBreaks_s (A B : Option Addr) (n cap nb capb : Nat) (d tol : Int) (xs : List It) (bs : List Int) (w : World) (hn : xs.length = n) (hm : n ≤ maxLen) (hr : Row w w.heap.size 6 A n (itc xs))
    (hnb : bs.length = nb) (hmb : nb ≤ maxLen) (hrb : Row w w.heap.size 1 B nb (inc bs)) :
    Calls Try.prog 18 #[.slice A n cap, .int .i64 d, .int .i64 tol, .slice B nb capb] w fun e w' => e = .returned (optV (chkV xs [d] tol bs)) ∧ Below w.heap.size w w' := by
  have hm' := hm
  unfold maxLen at hmb hm'
  have HN := Lib.hid hn
  have HR := Lib.hid hr
  have HRB := Lib.hid hrb
  have HNB := Lib.hid hnb
  clear hr hrb hnb hn
  go_enter Try.func18, Try.ntmps18
  go_wp2_with fail
  go_loopg [10, 11, 12] nb (fun k sv fv i wr => ∃ (j : Nat) (s f : Int), j ≤ nb ∧ k = nb - j ∧ i = .int .i64 (j : Int) ∧ sv = .int .i64 s ∧ fv = .int .i64 f ∧ ((j : Int) ≤ f + 1 ∧ f ≤ 60 ∧ -200000000 * (j : Int) ≤ s ∧ s ≤ 200000000 * (j : Int)) ∧ Hid (0 < j → (itemsOk xs && inR tol 0 10000) = true ∧ widthOk d = true) ∧ Hid (sumJ xs (wof [d]) tol bs j = some s) ∧ Hid (frm bs j = f) ∧ Below w.heap.size w wr)
  case atStart => exact ⟨0, 0, -1, Nat.zero_le _, rfl, rfl, rfl, rfl, ⟨by omega, by omega, by omega, by omega⟩, fun h => absurd h (by omega), rfl, rfl, Below.refl _ _⟩
  case round =>
    obtain ⟨j, s, f, hj, hk, rfl, rfl, rfl, ⟨j0, j1, s0, s1⟩, hg, hs, hf, hbel⟩ := hrel
    have HK := Lib.hid hk; clear hk
    have hsz := hbel.size
    by_cases hlt : j < nb
    · obtain ⟨b, off, rfl, hb, hc⟩ := HRB.out (by omega)
      obtain ⟨t, ht⟩ : ∃ t, bs.getD j default = t := ⟨_, rfl⟩
      have c0 : wr.cell? ⟨b, off + j, none⟩ = some (.int .i64 t) := by
        have := (hbel.cell (p := ⟨b, off + j, none⟩) hb).trans (by have := hc j 0 hlt (by omega); simpa only [inc, ht, Nat.mul_one, Nat.add_zero] using this)
        exact this
      have hjn : (j : Int) < (nb : Int) := by omega
      have HT := Lib.hid ht
      obtain ⟨o, ho⟩ : ∃ o, lcV xs d tol f t = o := ⟨_, rfl⟩
      have HO := Lib.hid ho
      clear ht hc ho
      go_wp2_with fail
      ((with_reducible refine (lineCost_S _ _ _ _ _ _ _ xs _ HN.out hm ?_).mono ?_); (exact (HR.out.below hbel).more hbel.size); rintro e w2 ⟨rfl, hb2⟩)
      rw [HO.out, optV]
      have hB2 := below_then (Nat.le_refl _) hbel hb2
      rcases o with _ | v
      · have HE := Lib.hid (chkV_bad HNB.out hs.out hlt (by rw [hf.out, HT.out, wof_one]; exact HO.out))
        simp only [Option.getD_none, Option.isSome_none]
        go_wp2_with fail
        (first | go_returns | (refine bodyPost_ret (by simp [results, Try.results18, go_sem, *]; try rfl) rfl ?_))
        exact ⟨by rw [HE.out]; rfl, hB2⟩
      · obtain ⟨hg2, hlc⟩ := lcV_some _ _ _ HO.out
        have hgw := lcV_some_w HO.out
        have hok : itemsOk xs = true := by rw [Bool.and_eq_true] at hg2; exact hg2.1
        have hwj : 1 ≤ d ∧ d ≤ 10000 := inR_iff.1 hgw
        obtain ⟨k1, k2, k3, k4, k5⟩ := lc_some hok HN.out hwj.1 hwj.2 hlc
        have h60 := (itemsOk_len hok HN.out).2
        have HS := Lib.hid (sumJ_yes hs.out (by rw [hf.out, HT.out, wof_one]; exact hlc))
        have HG := Lib.hid (And.intro hg2 hgw)
        clear hg2 hlc hok hwj hgw
        simp only [Option.getD_some, Option.isSome_some]
        have c2 := (hb2.cell (p := ⟨b, off + j, none⟩) (Nat.lt_of_lt_of_le hb hsz)).trans c0
        go_wp2_with fail
        go_roundg (nb - (j + 1))
        case measure => have := HK.out; omega
        case rel => exact ⟨j + 1, s + v, t, by omega, rfl, by go_num, rfl, rfl, ⟨by omega, by omega, by omega, by omega⟩, fun _ => HG.out, HS.out, by show _ = _; rw [frm_succ, HT.out], by (repeat' (first | (with_reducible exact Below.refl _ _) | (with_reducible assumption) | (with_reducible refine Below.alloc ?_ ?_ _) | (with_reducible refine Below.drew ?_) | (with_reducible refine below_drewN ?_ _) | (with_reducible refine Below.setCell ?_ ?_ _) | (with_reducible refine below_then ?_ ?_ (by with_reducible assumption)) | (with_reducible exact Nat.le_refl _) | go_size | (simp only [*]; done)))⟩
    · have ej : j = nb := by omega
      subst ej
      by_cases hz : j = 0
      · subst hz
        have HE := Lib.hid (chkV_zero (xs := xs) (sh := [d]) (tol := tol) HNB.out)
        go_wp2_with fail
        (first | go_returns | (refine bodyPost_ret (by simp [results, Try.results18, go_sem, *]; try rfl) rfl ?_))
        exact ⟨by rw [HE.out]; rfl, hbel⟩
      have hzf : ((j : Int) == 0) = false := by simpa using hz
      by_cases hq : f = (n : Int) - 1
      · have HE := Lib.hid (chkV_end HNB.out HN.out (by omega) (hg.out (by omega)).1 (by rw [shape_one]; exact (hg.out (by omega)).2) hs.out hf.out hq)
        have hqf : (f == (n : Int) - 1) = true := by simpa using hq
        go_wp2_with fail
        (first | go_returns | (refine bodyPost_ret (by simp [results, Try.results18, go_sem, *]; try rfl) rfl ?_))
        exact ⟨by rw [HE.out]; rfl, hbel⟩
      · have HE := Lib.hid (chkV_last (sh := [d]) (tol := tol) HNB.out HN.out (by omega) hf.out hq)
        have hqf : (f == (n : Int) - 1) = false := by simpa using hq
        go_wp2_with fail
        (first | go_returns | (refine bodyPost_ret (by simp [results, Try.results18, go_sem, *]; try rfl) rfl ?_))
        exact ⟨by rw [HE.out]; rfl, hbel⟩
end Go.Proofs.Ytkmipgekmbngcaa
/- Slices of items of a paragraph: copies, comparisons and marks. Conditions: the slice reads as the list; at most 2^20 items where a row is made. -/
namespace Go.Proofs.Ytkmipgekmbngcaa
open Go.RowKit

theorem it_step {xs : List It} {n j : Nat} {x : It} {z : Nat → Value} (hx : xs.getD j default = x) : ∀ i q, i < n → q < 6 →
    (if i = j ∧ q = 5 then itv x 5 else if i = j ∧ q = 4 then itv x 4 else if i = j ∧ q = 3 then itv x 3 else if i = j ∧ q = 2 then itv x 2 else if i = j ∧ q = 1 then itv x 1 else if i = j ∧ q = 0 then itv x 0 else if i < j then itc xs i q else z q) = if i < j + 1 then itc xs i q else z q := by
  intro i q _ hq
  by_cases e : i = j
  · subst e
    match q, hq with
    | 0, _ => simp [itc, ← hx]
    | 1, _ => simp [itc, ← hx]
    | 2, _ => simp [itc, ← hx]
    | 3, _ => simp [itc, ← hx]
    | 4, _ => simp [itc, ← hx]
    | 5, _ => simp [itc, ← hx]
  · have e2 : (i < j + 1) = (i < j) := by simp; omega
    simp [e, e2]
theorem szItemS_any (A : Option Addr) (n cap : Nat) (m : Int) (w : World) (hn : n ≤ maxLen) (h0 : 0 ≤ m) (hm : m ≤ 1048576) :
    Calls Try.prog 24 #[.slice A n cap, .int .i64 m] w fun e w' => e = .returned (.int .i64 (if m < n then -1 else m - n)) ∧ w = w' := by
  unfold maxLen at hn
  by_cases h : m < n
  · rw [if_pos h]
    go_enter Try.func24, Try.ntmps24
    go_wp2
    go_ret
    exact ⟨rfl, rfl⟩
  · rw [if_neg h]
    go_enter Try.func24, Try.ntmps24
    go_wp2
    go_ret
    exact ⟨rfl, rfl⟩

theorem szItemS_ok (A : Option Addr) (n cap : Nat) (w : World) (hn : n ≤ 1048576) :
    Calls Try.prog 24 #[.slice A n cap, .int .i64 1048576] w fun e w' => e = .returned (.int .i64 (1048576 - n)) ∧ w = w' :=
  (szItemS_any A n cap 1048576 w (by unfold maxLen; omega) (by omega) (by omega)).mono fun e w' ⟨h1, h2⟩ => ⟨by rw [h1, if_neg (by omega)], h2⟩
theorem szItemS_big (A : Option Addr) (n cap : Nat) (w : World) (hn : n ≤ maxLen) (hb : 1048576 < n) :
    Calls Try.prog 24 #[.slice A n cap, .int .i64 1048576] w fun e w' => e = .returned (.int .i64 (-1)) ∧ w = w' :=
  (szItemS_any A n cap 1048576 w hn (by omega) (by omega)).mono fun e w' ⟨h1, h2⟩ => ⟨by rw [h1, if_pos (by omega)], h2⟩

set_option maxHeartbeats 1000000 in
theorem eqItemS_same (A A' : Option Addr) (n cap cap' : Nat) (xs : List It) (w : World) (hm : n ≤ maxLen) (hr : Row w w.heap.size 6 A n (itc xs)) (hr' : Row w w.heap.size 6 A' n (itc xs)) :
    Calls Try.prog 27 #[.slice A n cap, .slice A' n cap'] w fun e w' => e = .returned (.bool true) ∧ Below w.heap.size w w' := by
  unfold maxLen at hm
  go_enter Try.func27, Try.ntmps27
  go_wp2_with fail
  go_loopg [5] n (fun k i wr => ∃ j : Nat, j ≤ n ∧ k = n - j ∧ i = .int .i64 j ∧ Below w.heap.size w wr)
  case atStart => exact ⟨0, Nat.zero_le _, rfl, rfl, Below.refl _ _⟩
  case round =>
    obtain ⟨j, hj, hk, rfl, hbel⟩ := hrel
    have HK := Lib.hid hk; clear hk
    have hsz := hbel.size
    by_cases hlt : j < n
    · obtain ⟨b', off', rfl, hb', hc'⟩ := hr' (by omega)
      have d0 : wr.cell? ⟨b', off' + j * 6, none⟩ = _ := (hbel.cell (p := ⟨b', off' + j * 6, none⟩) hb').trans (hc' j 0 hlt (by omega))
      have d1 : wr.cell? ⟨b', off' + j * 6 + 1, none⟩ = _ := (hbel.cell (p := ⟨b', off' + j * 6 + 1, none⟩) hb').trans (hc' j 1 hlt (by omega))
      have d2 : wr.cell? ⟨b', off' + j * 6 + 2, none⟩ = _ := (hbel.cell (p := ⟨b', off' + j * 6 + 2, none⟩) hb').trans (hc' j 2 hlt (by omega))
      have d3 : wr.cell? ⟨b', off' + j * 6 + 3, none⟩ = _ := (hbel.cell (p := ⟨b', off' + j * 6 + 3, none⟩) hb').trans (hc' j 3 hlt (by omega))
      have d4 : wr.cell? ⟨b', off' + j * 6 + 4, none⟩ = _ := (hbel.cell (p := ⟨b', off' + j * 6 + 4, none⟩) hb').trans (hc' j 4 hlt (by omega))
      have d5 : wr.cell? ⟨b', off' + j * 6 + 5, none⟩ = _ := (hbel.cell (p := ⟨b', off' + j * 6 + 5, none⟩) hb').trans (hc' j 5 hlt (by omega))
      obtain ⟨b, off, rfl, hb, hc⟩ := hr (by omega)
      have c0 : wr.cell? ⟨b, off + j * 6, none⟩ = _ := (hbel.cell (p := ⟨b, off + j * 6, none⟩) hb).trans (hc j 0 hlt (by omega))
      have c1 : wr.cell? ⟨b, off + j * 6 + 1, none⟩ = _ := (hbel.cell (p := ⟨b, off + j * 6 + 1, none⟩) hb).trans (hc j 1 hlt (by omega))
      have c2 : wr.cell? ⟨b, off + j * 6 + 2, none⟩ = _ := (hbel.cell (p := ⟨b, off + j * 6 + 2, none⟩) hb).trans (hc j 2 hlt (by omega))
      have c3 : wr.cell? ⟨b, off + j * 6 + 3, none⟩ = _ := (hbel.cell (p := ⟨b, off + j * 6 + 3, none⟩) hb).trans (hc j 3 hlt (by omega))
      have c4 : wr.cell? ⟨b, off + j * 6 + 4, none⟩ = _ := (hbel.cell (p := ⟨b, off + j * 6 + 4, none⟩) hb).trans (hc j 4 hlt (by omega))
      have c5 : wr.cell? ⟨b, off + j * 6 + 5, none⟩ = _ := (hbel.cell (p := ⟨b, off + j * 6 + 5, none⟩) hb).trans (hc j 5 hlt (by omega))
      obtain ⟨x, hx⟩ : ∃ x, xs.getD j default = x := ⟨_, rfl⟩
      simp only [itc, itv, hx] at c0 c1 c2 c3 c4 c5 d0 d1 d2 d3 d4 d5
      clear hc hc' hx
      have hlt' : (j : Int) < (n : Int) := by omega
      have hbw : b < wr.heap.size := by omega
      have hbw' : b' < wr.heap.size := by omega
      go_wp2_with fail
      go_region_held3 (fun w' => w'.cell? ⟨b, off + j * 6, none⟩ = some (.int .i64 x.k) ∧ w'.cell? ⟨b, off + j * 6 + 1, none⟩ = some (.int .i64 x.w) ∧ w'.cell? ⟨b, off + j * 6 + 2, none⟩ = some (.int .i64 x.st) ∧ w'.cell? ⟨b, off + j * 6 + 3, none⟩ = some (.int .i64 x.sh) ∧ w'.cell? ⟨b, off + j * 6 + 4, none⟩ = some (.int .i64 x.pen) ∧ w'.cell? ⟨b, off + j * 6 + 5, none⟩ = some (.bool x.fl) ∧ w'.cell? ⟨b', off' + j * 6, none⟩ = some (.int .i64 x.k) ∧ w'.cell? ⟨b', off' + j * 6 + 1, none⟩ = some (.int .i64 x.w) ∧ w'.cell? ⟨b', off' + j * 6 + 2, none⟩ = some (.int .i64 x.st) ∧ w'.cell? ⟨b', off' + j * 6 + 3, none⟩ = some (.int .i64 x.sh) ∧ w'.cell? ⟨b', off' + j * 6 + 4, none⟩ = some (.int .i64 x.pen) ∧ w'.cell? ⟨b', off' + j * 6 + 5, none⟩ = some (.bool x.fl) ∧ Below w.heap.size w w')
        (first | exact ⟨c0, c1, c2, c3, c4, c5, d0, d1, d2, d3, d4, d5, hbel⟩ | exact ⟨c0, c1, c2, c3, c4, c5, d0, d1, d2, d3, d4, d5, hbel.drew⟩ | exact ⟨e0, e1, e2, e3, e4, e5, f0, f1, f2, f3, f4, f5, below_then (Nat.le_refl _) hbel.drew hb1⟩)
        (first | (go_at_call 67; refine (eqItem_same _ _ _ _ _ _ _).mono ?_; rintro e w' ⟨rfl, hb1⟩; have e0 := (hb1.cell (p := ⟨b, off + j * 6, none⟩) hbw).trans c0; have e1 := (hb1.cell (p := ⟨b, off + j * 6 + 1, none⟩) hbw).trans c1; have e2 := (hb1.cell (p := ⟨b, off + j * 6 + 2, none⟩) hbw).trans c2; have e3 := (hb1.cell (p := ⟨b, off + j * 6 + 3, none⟩) hbw).trans c3; have e4 := (hb1.cell (p := ⟨b, off + j * 6 + 4, none⟩) hbw).trans c4; have e5 := (hb1.cell (p := ⟨b, off + j * 6 + 5, none⟩) hbw).trans c5; have f0 := (hb1.cell (p := ⟨b', off' + j * 6, none⟩) hbw').trans d0; have f1 := (hb1.cell (p := ⟨b', off' + j * 6 + 1, none⟩) hbw').trans d1; have f2 := (hb1.cell (p := ⟨b', off' + j * 6 + 2, none⟩) hbw').trans d2; have f3 := (hb1.cell (p := ⟨b', off' + j * 6 + 3, none⟩) hbw').trans d3; have f4 := (hb1.cell (p := ⟨b', off' + j * 6 + 4, none⟩) hbw').trans d4; have f5 := (hb1.cell (p := ⟨b', off' + j * 6 + 5, none⟩) hbw').trans d5))
      go_wp2_with fail
      go_roundg (n - (j + 1))
      case measure => have := HK.out; omega
      case rel => exact ⟨j + 1, by omega, rfl, by go_num, by (repeat' (first | (with_reducible exact Below.refl _ _) | (with_reducible assumption) | (with_reducible refine Below.alloc ?_ ?_ _) | (with_reducible refine Below.drew ?_) | (with_reducible refine below_drewN ?_ _) | (with_reducible refine Below.setCell ?_ ?_ _) | (with_reducible refine below_then ?_ ?_ (by with_reducible assumption)) | (with_reducible exact Nat.le_refl _) | go_size | (simp only [*]; done)))⟩
    · go_wp2_with fail
      go_ret
      exact ⟨rfl, hbel⟩

def itz (q : Nat) : Value := match q with
  | 5 => .bool false
  | _ => .int .i64 0
set_option maxHeartbeats 1000000 in
theorem toItemS_any (A : Option Addr) (n cap : Nat) (xs : List It) (w : World) (hn : xs.length = n) (hm : n ≤ 1048576) (hr : Row w w.heap.size 6 A n (itc xs)) :
    Calls Try.prog 25 #[.slice A n cap] w fun e w' => e = .returned (.slice (some ⟨w.heap.size, 0, none⟩) n n) ∧ OwnP w' w.heap.size 78 6 (some ⟨w.heap.size, 0, none⟩) n n (itc xs) ∧ Below w.heap.size w w' := by
  obtain ⟨i0, hi, hz0, hz1, hz2⟩ := info_parts item_info
  have hmk := make_n (P := Try.prog) 23 78 i0 _ Try.underlying23 hi hz0 n (by rw [hz2]; omega) (by omega)
  rw [hz1] at hmk
  have HN := Lib.hid hn; clear hn
  go_enter Try.func25, Try.ntmps25
  go_wp2_with fail
  go_loopg [4] n (fun k i wr => ∃ j : Nat, j ≤ n ∧ k = n - j ∧ i = .int .i64 j ∧ Hid (OwnP wr w.heap.size 78 6 (some ⟨w.heap.size, 0, none⟩) n n (fun i q => if i < j then itc xs i q else itz q)) ∧ Below w.heap.size w wr)
  case atStart => exact ⟨0, Nat.zero_le _, rfl, rfl, (OwnP.made w _ #[.int .i64 0, .int .i64 0, .int .i64 0, .int .i64 0, .int .i64 0, .bool false] n (by simp) (by unfold maxLen; omega)).congr (fun i q _ hq => by (have hq' : q < 6 := hq); simp; match q, hq' with | 0, _ => rfl | 1, _ => rfl | 2, _ => rfl | 3, _ => rfl | 4, _ => rfl | 5, _ => rfl), by (repeat' (first | (with_reducible exact Below.refl _ _) | (with_reducible assumption) | (with_reducible refine Below.alloc ?_ ?_ _) | (with_reducible refine Below.drew ?_) | (with_reducible refine below_drewN ?_ _) | (with_reducible refine Below.setCell ?_ ?_ _) | (with_reducible refine below_then ?_ ?_ (by with_reducible assumption)) | (with_reducible exact Nat.le_refl _) | go_size | (simp only [*]; done)))⟩
  case round =>
    obtain ⟨j, hj, hk, rfl, hown, hbel⟩ := hrel
    have HK := Lib.hid hk; clear hk
    have hsz := hbel.size
    have olt := hown.out.lt
    by_cases hlt : j < n
    · obtain ⟨b, off, rfl, hb, hc⟩ := hr (by omega)
      have c0 : wr.cell? ⟨b, off + j * 6, none⟩ = _ := (hbel.cell (p := ⟨b, off + j * 6, none⟩) hb).trans (hc j 0 hlt (by omega))
      have c1 : wr.cell? ⟨b, off + j * 6 + 1, none⟩ = _ := (hbel.cell (p := ⟨b, off + j * 6 + 1, none⟩) hb).trans (hc j 1 hlt (by omega))
      have c2 : wr.cell? ⟨b, off + j * 6 + 2, none⟩ = _ := (hbel.cell (p := ⟨b, off + j * 6 + 2, none⟩) hb).trans (hc j 2 hlt (by omega))
      have c3 : wr.cell? ⟨b, off + j * 6 + 3, none⟩ = _ := (hbel.cell (p := ⟨b, off + j * 6 + 3, none⟩) hb).trans (hc j 3 hlt (by omega))
      have c4 : wr.cell? ⟨b, off + j * 6 + 4, none⟩ = _ := (hbel.cell (p := ⟨b, off + j * 6 + 4, none⟩) hb).trans (hc j 4 hlt (by omega))
      have c5 : wr.cell? ⟨b, off + j * 6 + 5, none⟩ = _ := (hbel.cell (p := ⟨b, off + j * 6 + 5, none⟩) hb).trans (hc j 5 hlt (by omega))
      obtain ⟨x, hx⟩ : ∃ x, xs.getD j default = x := ⟨_, rfl⟩
      simp only [itc, itv, hx] at c0 c1 c2 c3 c4 c5
      have Hx := Lib.hid hx; clear hx hc
      have o0 : wr.cell? ⟨w.heap.size, j * 6, none⟩ = _ := hown.out.cell (q := 0) hlt (by omega)
      have o1 : wr.cell? ⟨w.heap.size, j * 6 + 1, none⟩ = _ := hown.out.cell (q := 1) hlt (by omega)
      have o2 : wr.cell? ⟨w.heap.size, j * 6 + 2, none⟩ = _ := hown.out.cell (q := 2) hlt (by omega)
      have o3 : wr.cell? ⟨w.heap.size, j * 6 + 3, none⟩ = _ := hown.out.cell (q := 3) hlt (by omega)
      have o4 : wr.cell? ⟨w.heap.size, j * 6 + 4, none⟩ = _ := hown.out.cell (q := 4) hlt (by omega)
      have o5 : wr.cell? ⟨w.heap.size, j * 6 + 5, none⟩ = _ := hown.out.cell (q := 5) hlt (by omega)
      have of0 := hown.out.frozen (j * 6)
      have of1 := hown.out.frozen (j * 6 + 1)
      have of2 := hown.out.frozen (j * 6 + 2)
      have of3 := hown.out.frozen (j * 6 + 3)
      have of4 := hown.out.frozen (j * 6 + 4)
      have of5 := hown.out.frozen (j * 6 + 5)
      simp only [Nat.lt_irrefl, if_false, itz] at o0 o1 o2 o3 o4 o5
      go_wp2_with fail
      ((with_reducible refine (toItem_any _ _ _ _ _ _ _).mono ?_); rintro e w1 ⟨rfl, hb1⟩)
      have hz1 := hb1.size
      have p0 := (hb1.cell (p := ⟨w.heap.size, j * 6, none⟩) olt).trans o0
      have p1 := (hb1.cell (p := ⟨w.heap.size, j * 6 + 1, none⟩) olt).trans o1
      have p2 := (hb1.cell (p := ⟨w.heap.size, j * 6 + 2, none⟩) olt).trans o2
      have p3 := (hb1.cell (p := ⟨w.heap.size, j * 6 + 3, none⟩) olt).trans o3
      have p4 := (hb1.cell (p := ⟨w.heap.size, j * 6 + 4, none⟩) olt).trans o4
      have p5 := (hb1.cell (p := ⟨w.heap.size, j * 6 + 5, none⟩) olt).trans o5
      have q0 := (hb1.frozen (p := ⟨w.heap.size, j * 6, none⟩) olt).trans of0
      have q1 := (hb1.frozen (p := ⟨w.heap.size, j * 6 + 1, none⟩) olt).trans of1
      have q2 := (hb1.frozen (p := ⟨w.heap.size, j * 6 + 2, none⟩) olt).trans of2
      have q3 := (hb1.frozen (p := ⟨w.heap.size, j * 6 + 3, none⟩) olt).trans of3
      have q4 := (hb1.frozen (p := ⟨w.heap.size, j * 6 + 4, none⟩) olt).trans of4
      have q5 := (hb1.frozen (p := ⟨w.heap.size, j * 6 + 5, none⟩) olt).trans of5
      go_wp2_with fail
      go_roundg (n - (j + 1))
      case measure => have := HK.out; omega
      case rel => exact ⟨j + 1, by omega, rfl, by go_num, ((((((((hown.out.then_ hb1).set0 hlt (by omega) _).set_ (q := 1) hlt (by omega) _).set_ (q := 2) hlt (by omega) _).set_ (q := 3) hlt (by omega) _).set_ (q := 4) hlt (by omega) _).set_ (q := 5) hlt (by omega) _)).congr (it_step Hx.out), by (repeat' (first | (with_reducible exact Below.refl _ _) | (with_reducible assumption) | (with_reducible refine Below.alloc ?_ ?_ _) | (with_reducible refine Below.drew ?_) | (with_reducible refine below_drewN ?_ _) | (with_reducible refine Below.setCell ?_ ?_ _) | (with_reducible refine below_then ?_ ?_ (by with_reducible assumption)) | (with_reducible exact Nat.le_refl _) | go_size | (simp only [*]; done)))⟩
    · go_wp2_with fail
      go_ret
      refine ⟨rfl, hown.out.congr fun i q hi _ => if_pos (by omega), by (repeat' (first | (with_reducible exact Below.refl _ _) | (with_reducible assumption) | (with_reducible refine Below.alloc ?_ ?_ _) | (with_reducible refine Below.drew ?_) | (with_reducible refine below_drewN ?_ _) | (with_reducible refine Below.setCell ?_ ?_ _) | (with_reducible refine below_then ?_ ?_ (by with_reducible assumption)) | (with_reducible exact Nat.le_refl _) | go_size | (simp only [*]; done)))⟩

/-- A row of the call's own, whatever it holds. -/
def OwnX (w : World) (base : Nat) (t : TypeId) (sz : Nat) (A : Option Addr) (n c : Nat) : Prop := ∃ f, OwnP w base t sz A n c f
theorem OwnX.then_ {w w' : World} {base : Nat} {t : TypeId} {sz : Nat} {A : Option Addr} {n c : Nat} (h : OwnX w base t sz A n c) (hb : Below w.heap.size w w') : OwnX w' base t sz A n c := h.imp fun _ h => h.then_ hb
theorem OwnX.apart {w w' : World} {base : Nat} {t : TypeId} {sz : Nat} {A B : Option Addr} {n c m d : Nat} (h : OwnX w base t sz A n c) (hg : w.grownBy w' (Value.ownBlock (.slice B m d))) (hb : ∀ x, A = some x → ∀ y, B = some y → x.block ≠ y.block) : OwnX w' base t sz A n c := h.imp fun _ h => h.apart hg hb
theorem OwnX.set_at {w : World} {base g sz n c i q o : Nat} {t : TypeId} (h : OwnX w base t sz (some ⟨g, 0, none⟩) n c) (hi : i < n) (hq : q < sz) (ho : o = i * sz + q) (u : Value) : OwnX (w.setCell ⟨g, o, none⟩ u) base t sz (some ⟨g, 0, none⟩) n c := h.elim fun _ h => ⟨_, h.set_at hi hq ho u⟩
theorem grown_set {w wr : World} {g : Nat} (h : w.grownBy wr (some g)) (o : Nat) (u : Value) : w.grownBy (wr.setCell ⟨g, o, none⟩ u) (some g) :=
  ⟨h.os, h.tape, h.output, by simpa [World.setCell] using h.size, fun i hi hne => (Below.heap_setCell _ _ _ i (fun e => hne (by rw [e]))).trans (h.block i hi hne)⟩
set_option maxHeartbeats 1000000 in
theorem markItemS_any (A : Option Addr) (n c base : Nat) (f : Nat → Nat → Value) (w : World) (hm : n ≤ 2097152) (h : OwnP w base 78 6 A n c f) :
    Calls Try.prog 31 #[.slice A n c, .int .i64 1] w fun e w' => e = .returned (.int .i64 (6 * (n : Int) + 1)) ∧ OwnX w' base 78 6 A n c ∧ w.grownBy w' (Value.ownBlock (.slice A n c)) := by
  rcases h.form with ⟨rfl, rfl, rfl⟩ | ⟨g, rfl, hbg, hgl⟩
  · go_enter Try.func31, Try.ntmps31
    go_wp2_with fail
    go_loopg [1, 5] 0 (fun k r i wr => i = .int .i64 0 ∧ r = .int .i64 1 ∧ w.grownBy wr (Value.ownBlock (.slice none 0 0)))
    case atStart => exact ⟨rfl, rfl, rfl, rfl, rfl, Nat.le_refl _, fun _ _ _ => rfl⟩
    case round =>
      obtain ⟨rfl, rfl, hg⟩ := hrel
      go_wp2_with fail
      go_ret
      exact ⟨rfl, ⟨_, h.kept hg (.inl rfl)⟩, hg⟩
  · have HP := Lib.hid h
    clear h
    go_enter Try.func31, Try.ntmps31
    go_wp2_with fail
    go_loopg [1, 5] n (fun k r i wr => ∃ j : Nat, j ≤ n ∧ k = n - j ∧ i = .int .i64 j ∧ r = .int .i64 (6 * (j : Int) + 1) ∧ Hid (∃ f, OwnP wr base 78 6 (some ⟨g, 0, none⟩) n c f) ∧ w.grownBy wr (some g))
    case atStart => exact ⟨0, Nat.zero_le _, rfl, rfl, by go_num, ⟨_, HP.out⟩, rfl, rfl, rfl, Nat.le_refl _, fun _ _ _ => rfl⟩
    case round =>
      obtain ⟨j, hj, hk, rfl, rfl, hown, hbel⟩ := hrel
      have HK := Lib.hid hk; clear hk
      have hsz := hbel.size
      obtain ⟨f', hown⟩ := hown.out
      have HOW := Lib.hid hown; clear hown
      by_cases hlt : j < n
      · skip
        have o0 : wr.cell? ⟨g, j * 6, none⟩ = _ := HOW.out.cell (q := 0) hlt (by omega)
        have o1 : wr.cell? ⟨g, j * 6 + 1, none⟩ = _ := HOW.out.cell (q := 1) hlt (by omega)
        have o2 : wr.cell? ⟨g, j * 6 + 2, none⟩ = _ := HOW.out.cell (q := 2) hlt (by omega)
        have o3 : wr.cell? ⟨g, j * 6 + 3, none⟩ = _ := HOW.out.cell (q := 3) hlt (by omega)
        have o4 : wr.cell? ⟨g, j * 6 + 4, none⟩ = _ := HOW.out.cell (q := 4) hlt (by omega)
        have o5 : wr.cell? ⟨g, j * 6 + 5, none⟩ = _ := HOW.out.cell (q := 5) hlt (by omega)
        have of0 := HOW.out.frozen (j * 6)
        have of1 := HOW.out.frozen (j * 6 + 1)
        have of2 := HOW.out.frozen (j * 6 + 2)
        have of3 := HOW.out.frozen (j * 6 + 3)
        have of4 := HOW.out.frozen (j * 6 + 4)
        have of5 := HOW.out.frozen (j * 6 + 5)
        go_wp2_with fail
        go_roundg (n - (j + 1))
        case measure => have := HK.out; omega
        case rel =>
          have h0 : OwnX wr base 78 6 (some ⟨g, 0, none⟩) n c := ⟨_, HOW.out⟩
          clear HOW o0 o1 o2 o3 o4 o5 of0 of1 of2 of3 of4 of5
          refine ⟨j + 1, by omega, rfl, by go_num, by go_num, ?_, ?_⟩
          · refine OwnX.set_at (i := j) (q := 5) ?_ hlt (by omega) (by omega) _
            refine OwnX.set_at (i := j) (q := 4) ?_ hlt (by omega) (by omega) _
            refine OwnX.set_at (i := j) (q := 3) ?_ hlt (by omega) (by omega) _
            refine OwnX.set_at (i := j) (q := 2) ?_ hlt (by omega) (by omega) _
            refine OwnX.set_at (i := j) (q := 1) ?_ hlt (by omega) (by omega) _
            exact OwnX.set_at (i := j) (q := 0) h0 hlt (by omega) (by omega) _
          · exact grown_set (grown_set (grown_set (grown_set (grown_set (grown_set hbel _ _) _ _) _ _) _ _) _ _) _ _
      · have ej : j = n := by omega
        subst ej
        go_wp2_with fail
        go_ret
        exact ⟨rfl, ⟨_, HOW.out⟩, hbel⟩
end Go.Proofs.Ytkmipgekmbngcaa
/- A slice of numbers of the call's own is marked 1, 2, ... Conditions: at most 2^21 numbers. -/
namespace Go.Proofs.Ytkmipgekmbngcaa
open Go.RowKit

/-- The marks 1, 2, .. -/
def marks (n : Nat) : List Int := (List.range n).map fun (i : Nat) => (i : Int) + 1
theorem marks_len (n : Nat) : (marks n).length = n := by simp [marks]
theorem marks_at {n i : Nat} (h : i < n) : (marks n).getD i default = (i : Int) + 1 := by
  rw [List.getD_eq_getElem?_getD, marks, List.getElem?_map, List.getElem?_range h]; rfl
/-- A row that is being marked. -/
def markT (xs : List Int) (j : Nat) : List Int := marks j ++ xs.drop j
theorem markT_set {xs : List Int} {n j : Nat} (h : xs.length = n) (hj : j < n) : (markT xs j).set j ((j : Int) + 1) = markT xs (j + 1) := by
  unfold markT
  rw [List.set_append_right _ _ (by rw [marks_len]; omega), marks_len, Nat.sub_self]
  have e : marks (j + 1) = marks j ++ [(j : Int) + 1] := by simp [marks, List.range_succ]
  rw [e, List.drop_eq_getElem_cons (by omega), List.append_assoc]
  rfl
theorem markT_full {xs : List Int} {n : Nat} (h : xs.length = n) : markT xs n = marks n := by
  unfold markT
  rw [List.drop_of_length_le (by omega), List.append_nil]

theorem markIntS_any (A : Option Addr) (n c base : Nat) (xs : List Int) (w : World) (hm : n ≤ 2097152) (h : OwnI w base A n c xs) :
    Calls Try.prog 32 #[.slice A n c, .int .i64 1] w fun e w' => e = .returned (.int .i64 (n + 1)) ∧ OwnI w' base A n c (marks n) ∧ w.grownBy w' (Value.ownBlock (.slice A n c)) := by
  have hn := h.len
  rcases h.2 with ⟨hv, h0⟩ | ⟨g, cap, cur, hv, hbg, hgg, hnc, hcm, _⟩
  · cases hv
    clear hn
    go_enter Try.func32, Try.ntmps32
    go_wp2_with fail
    go_loopg [1, 5] 0 (fun k r i wr => i = .int .i64 0 ∧ r = .int .i64 1 ∧ w.grownBy wr (Value.ownBlock (.slice none 0 0)))
    case atStart => exact ⟨rfl, rfl, rfl, rfl, rfl, Nat.le_refl _, fun _ _ _ => rfl⟩
    case round =>
      obtain ⟨rfl, rfl, hg⟩ := hrel
      go_wp2_with fail
      go_ret
      exact ⟨rfl, OwnI.eq (h.kept hg (.inl rfl)) (List.eq_nil_of_length_eq_zero h.len), hg⟩
  · cases hv
    unfold maxLen at hcm
    have HN := Lib.hid hn; clear hn hgg
    go_enter Try.func32, Try.ntmps32
    go_wp2_with fail
    go_loopg [1, 5] n (fun k r i wr => ∃ j : Nat, j ≤ n ∧ k = n - j ∧ i = .int .i64 j ∧ r = .int .i64 ((j : Int) + 1) ∧ Hid (OwnI wr base (some ⟨g, 0, none⟩) n c (markT xs j)) ∧ w.grownBy wr (some g))
    case atStart => exact ⟨0, Nat.zero_le _, rfl, rfl, by go_num, h, rfl, rfl, rfl, Nat.le_refl _, fun _ _ _ => rfl⟩
    case round =>
      obtain ⟨j, hj, hk, rfl, rfl, hown, hbel⟩ := hrel
      have HK := Lib.hid hk; clear hk
      have hsz := hbel.size
      by_cases hlt : j < n
      · have o0 := hown.out.cellI hlt
        have of0 := hown.out.frozenAt j
        go_wp2_with fail
        go_roundg (n - (j + 1))
        case measure => have := HK.out; omega
        case rel => exact ⟨j + 1, by omega, rfl, by go_num, by go_num, (hown.out.stored _).eq (markT_set HN.out hlt), hbel.os, hbel.tape, hbel.output, by simpa [World.setCell] using hbel.size, fun i hi hne => (Below.heap_setCell _ _ _ i (fun e => hne (by rw [e]))).trans (hbel.block i hi hne)⟩
      · go_wp2_with fail
        go_ret
        have ej : j = n := by omega
        subst ej
        exact ⟨rfl, hown.out.eq (markT_full HN.out), hbel⟩

end Go.Proofs.Ytkmipgekmbngcaa
/- A slice that holds the marks 1, 2, .. is held. Conditions: the slice reads as the marks. -/
namespace Go.Proofs.Ytkmipgekmbngcaa
open Go.RowKit

theorem heldIntS_any (A : Option Addr) (n c : Nat) (w : World) (hm : n ≤ 9223372036854775806) (hr : Row w w.heap.size 1 A n (inc (marks n))) :
    Calls Try.prog 33 #[.slice A n c, .int .i64 1] w fun e w' => e = .returned (.int .i64 (n + 1)) ∧ Below w.heap.size w w' := by
  go_enter Try.func33, Try.ntmps33
  go_wp2_with fail
  go_loopg [1, 5] n (fun k r i wr => ∃ j : Nat, j ≤ n ∧ k = n - j ∧ i = .int .i64 j ∧ r = .int .i64 ((j : Int) + 1) ∧ Below w.heap.size w wr)
  case atStart => exact ⟨0, Nat.zero_le _, rfl, rfl, by go_num, Below.refl _ _⟩
  case round =>
    obtain ⟨j, hj, hk, rfl, rfl, hbel⟩ := hrel
    have HK := Lib.hid hk; clear hk
    have hsz := hbel.size
    by_cases hlt : j < n
    · obtain ⟨b, off, rfl, hb, hc⟩ := hr.at1 (by omega)
      have c0 : wr.cell? ⟨b, off + j, none⟩ = _ := (hbel.cell (p := ⟨b, off + j, none⟩) hb).trans (hc j hlt)
      have e0 : (marks n).getD j default = (j : Int) + 1 := marks_at hlt
      simp only [inc, e0] at c0
      clear hc e0
      go_wp2_with fail
      go_roundg (n - (j + 1))
      case measure => have := HK.out; omega
      case rel => exact ⟨j + 1, by omega, rfl, by go_num, by go_num, by (repeat' (first | (with_reducible exact Below.refl _ _) | (with_reducible assumption) | (with_reducible refine Below.alloc ?_ ?_ _) | (with_reducible refine Below.drew ?_) | (with_reducible refine below_drewN ?_ _) | (with_reducible refine Below.setCell ?_ ?_ _) | (with_reducible refine below_then ?_ ?_ (by with_reducible assumption)) | (with_reducible exact Nat.le_refl _) | go_size | (simp only [*]; done)))⟩
    · go_wp2_with fail
      go_ret
      have ej : j = n := by omega
      subst ej
      exact ⟨rfl, hbel⟩
end Go.Proofs.Ytkmipgekmbngcaa
/- The exact law on CheckShape answers true. Conditions: the slices read as lists. -/
namespace Go.Proofs.Ytkmipgekmbngcaa
open Go.RowKit

theorem opt_form {r V : Option Int} (hr : r = V) {c : Int} {o : Bool} (hc : V.getD 0 = c) (ho : V.isSome = o) {w : World} {B : Nat} {e : Ending} {w' : World} (h : e = .returned (optV r) ∧ Below B w w') : e = .returned (.tuple #[.int .i64 c, .bool o]) ∧ Below B w w' := by
  subst hr hc ho
  exact h

set_option maxHeartbeats 4000000 in
theorem law_ExactCheckShape (A0 : Option Addr) (n0 cap0 : Nat) (xs0 : List It) (A1 : Option Addr) (n1 cap1 : Nat) (xs1 : List Int) (a2 : Int) (A3 : Option Addr) (n3 cap3 : Nat) (xs3 : List Int) (w : World) (hn0 : xs0.length = n0) (hm0 : n0 ≤ maxLen) (hr0 : Row w w.heap.size 6 A0 n0 (itc xs0)) (hn1 : xs1.length = n1) (hm1 : n1 ≤ maxLen) (hr1 : Row w w.heap.size 1 A1 n1 (inc xs1)) (hn3 : xs3.length = n3) (hm3 : n3 ≤ maxLen) (hr3 : Row w w.heap.size 1 A3 n3 (inc xs3)) :
    Calls Try.prog 6 #[.slice A0 n0 cap0, .slice A1 n1 cap1, .int .i64 a2, .slice A3 n3 cap3] w fun e w' => e = .returned (.bool true) ∧ Below w.heap.size w w' := by
  have hq0 := hm0
  unfold maxLen at hq0
  have hq1 := hm1
  unfold maxLen at hq1
  have hq3 := hm3
  unfold maxLen at hq3
  by_cases hbig1 : 1048576 < n1
  · clear hn0 hn1 hn3
    go_enter Try.func6, Try.ntmps6
    go_wp2_with fail
    go_returns
    exact ⟨rfl, Below.refl _ _⟩
  by_cases hbig3 : 1048576 < n3
  · clear hn0 hn1 hn3
    go_enter Try.func6, Try.ntmps6
    go_wp2_with fail
    go_returns
    exact ⟨rfl, Below.refl _ _⟩
  by_cases hbig0 : 1048576 < n0
  · clear hn0 hn1 hn3
    go_enter Try.func6, Try.ntmps6
    go_wp2_with (go_at_call 24; refine (szItemS_big _ _ _ _ hm0 hbig0).mono ?_; rintro e w' ⟨rfl, rfl⟩)
    go_returns
    exact ⟨rfl, Below.refl _ _⟩
  have hsm0 : n0 ≤ 1048576 := by omega
  have HN0 := Lib.hid hn0; clear hn0 hbig0
  have hsm1 : n1 ≤ 1048576 := by omega
  have HN1 := Lib.hid hn1; clear hn1 hbig1
  have hsm3 : n3 ≤ 1048576 := by omega
  have HN3 := Lib.hid hn3; clear hn3 hbig3
  have hB0 : Below w.heap.size w w := Below.refl _ _
  have ra0_0 := hr0; clear hr0
  have ra1_0 := hr1; clear hr1
  have ra3_0 := hr3; clear hr3
  obtain ⟨V, hV⟩ : ∃ V, chkV xs0 xs1 a2 xs3 = V := ⟨_, rfl⟩
  obtain ⟨c, hc⟩ : ∃ c, V.getD 0 = c := ⟨_, rfl⟩
  obtain ⟨o, ho⟩ : ∃ o, V.isSome = o := ⟨_, rfl⟩
  have HV := Lib.hid hV
  have HC := Lib.hid hc
  have HO := Lib.hid ho
  clear hV hc ho
  go_enter Try.func6, Try.ntmps6
  go_wp2_with fail
  ((with_reducible refine (szItemS_ok _ _ _ _ hsm0).mono ?_); rintro e w' ⟨rfl, rfl⟩)
  go_wp2_with fail
  ((with_reducible refine (toItemS_any _ _ _ xs0 _ HN0.out hsm0 ?_).mono ?_); (exact (ra0_0.more hB0.size)); rintro e w1 ⟨rfl, p0, hb1⟩)
  have hz1 := hb1.size
  have hB1 := below_then (Nat.le_refl _) hB0 hb1
  have ra0_1 := ra0_0.below (hb1.mono hB0.size); clear ra0_0
  have ra1_1 := ra1_0.below (hb1.mono hB0.size); clear ra1_0
  have ra3_1 := ra3_0.below (hb1.mono hB0.size); clear ra3_0
  have p0_1 := p0; clear p0
  have blk_p0 := p0_1.blk
  go_wp2_with fail
  ((with_reducible refine (toIntS_any _ _ _ xs1 _ HN1.out hsm1 ?_).mono ?_); (exact (ra1_1.more hB1.size)); rintro e w2 ⟨rfl, p1, hb2⟩)
  have hz2 := hb2.size
  have hB2 := below_then (Nat.le_refl _) hB1 hb2
  have ra0_2 := ra0_1.below (hb2.mono hB1.size); clear ra0_1
  have ra1_2 := ra1_1.below (hb2.mono hB1.size); clear ra1_1
  have ra3_2 := ra3_1.below (hb2.mono hB1.size); clear ra3_1
  have p0_2 := p0_1.then_ hb2; clear p0_1
  have p1_2 := p1; clear p1
  have blk_p1 := p1_2.blk
  go_wp2_with fail
  ((with_reducible refine (toIntS_any _ _ _ xs3 _ HN3.out hsm3 ?_).mono ?_); (exact (ra3_2.more hB2.size)); rintro e w3 ⟨rfl, p3, hb3⟩)
  have hz3 := hb3.size
  have hB3 := below_then (Nat.le_refl _) hB2 hb3
  have ra0_3 := ra0_2.below (hb3.mono hB2.size); clear ra0_2
  have ra1_3 := ra1_2.below (hb3.mono hB2.size); clear ra1_2
  have ra3_3 := ra3_2.below (hb3.mono hB2.size); clear ra3_2
  have p0_3 := p0_2.then_ hb3; clear p0_2
  have p1_3 := p1_2.then_ hb3; clear p1_2
  have p3_3 := p3; clear p3
  have blk_p3 := p3_3.blk
  go_wp2_with fail
  ((with_reducible refine ((checkShape_s _ _ _ _ _ _ _ _ _ _ xs0 xs1 xs3 _ HN0.out hm0 ?_ HN1.out hm1 ?_ HN3.out hm3 ?_).mono fun _ _ h => opt_form HV.out HC.out HO.out h).mono ?_); (exact p0_3.row); (exact p1_3.row); (exact p3_3.row); rintro e w4 ⟨rfl, hb4⟩)
  have hz4 := hb4.size
  have hB4 := below_then (Nat.le_refl _) hB3 hb4
  have ra0_4 := ra0_3.below (hb4.mono hB3.size); clear ra0_3
  have ra1_4 := ra1_3.below (hb4.mono hB3.size); clear ra1_3
  have ra3_4 := ra3_3.below (hb4.mono hB3.size); clear ra3_3
  have p0_4 := p0_3.then_ hb4; clear p0_3
  have p1_4 := p1_3.then_ hb4; clear p1_3
  have p3_4 := p3_3.then_ hb4; clear p3_3
  clear p0_4
  clear p1_4
  clear p3_4
  go_wp2_with fail
  ((with_reducible refine (toItemS_any _ _ _ xs0 _ HN0.out hsm0 ?_).mono ?_); (exact (ra0_4.more hB4.size)); rintro e w5 ⟨rfl, x0, hb5⟩)
  have hz5 := hb5.size
  have hB5 := below_then (Nat.le_refl _) hB4 hb5
  have ra0_5 := ra0_4.below (hb5.mono hB4.size); clear ra0_4
  have ra1_5 := ra1_4.below (hb5.mono hB4.size); clear ra1_4
  have ra3_5 := ra3_4.below (hb5.mono hB4.size); clear ra3_4
  have x0_5 := x0; clear x0
  have blk_x0 := x0_5.blk
  go_wp2_with fail
  ((with_reducible refine (toIntS_any _ _ _ xs1 _ HN1.out hsm1 ?_).mono ?_); (exact (ra1_5.more hB5.size)); rintro e w6 ⟨rfl, x1, hb6⟩)
  have hz6 := hb6.size
  have hB6 := below_then (Nat.le_refl _) hB5 hb6
  have ra0_6 := ra0_5.below (hb6.mono hB5.size); clear ra0_5
  have ra1_6 := ra1_5.below (hb6.mono hB5.size); clear ra1_5
  have ra3_6 := ra3_5.below (hb6.mono hB5.size); clear ra3_5
  have x0_6 := x0_5.then_ hb6; clear x0_5
  have x1_6 := x1; clear x1
  have blk_x1 := x1_6.blk
  go_wp2_with fail
  ((with_reducible refine (toIntS_any _ _ _ xs3 _ HN3.out hsm3 ?_).mono ?_); (exact (ra3_6.more hB6.size)); rintro e w7 ⟨rfl, x3, hb7⟩)
  have hz7 := hb7.size
  have hB7 := below_then (Nat.le_refl _) hB6 hb7
  have ra0_7 := ra0_6.below (hb7.mono hB6.size); clear ra0_6
  have ra1_7 := ra1_6.below (hb7.mono hB6.size); clear ra1_6
  have ra3_7 := ra3_6.below (hb7.mono hB6.size); clear ra3_6
  have x0_7 := x0_6.then_ hb7; clear x0_6
  have x1_7 := x1_6.then_ hb7; clear x1_6
  have x3_7 := x3; clear x3
  have blk_x3 := x3_7.blk
  go_wp2_with fail
  ((with_reducible refine ((checkShape_i _ _ _ _ _ _ _ _ _ _ xs0 xs1 xs3 _ HN0.out hm0 ⟨Nat.le_refl _, hm0⟩ ?_ HN1.out hm1 ?_ HN3.out hm3 ?_).mono fun _ _ h => opt_form HV.out HC.out HO.out h).mono ?_); (exact x0_7.row); (exact x1_7.row); (exact x3_7.row); rintro e w8 ⟨rfl, hb8⟩)
  have hz8 := hb8.size
  have hB8 := below_then (Nat.le_refl _) hB7 hb8
  have ra0_8 := ra0_7.below (hb8.mono hB7.size); clear ra0_7
  have ra1_8 := ra1_7.below (hb8.mono hB7.size); clear ra1_7
  have ra3_8 := ra3_7.below (hb8.mono hB7.size); clear ra3_7
  have x0_8 := x0_7.then_ hb8; clear x0_7
  have x1_8 := x1_7.then_ hb8; clear x1_7
  have x3_8 := x3_7.then_ hb8; clear x3_7
  go_wp2_with fail
  ((with_reducible refine (toItemS_any _ _ _ xs0 _ HN0.out hsm0 ?_).mono ?_); (exact (ra0_8.more hB8.size)); rintro e w9 ⟨rfl, t0, hb9⟩)
  have hz9 := hb9.size
  have hB9 := below_then (Nat.le_refl _) hB8 hb9
  have ra0_9 := ra0_8.below (hb9.mono hB8.size); clear ra0_8
  have ra1_9 := ra1_8.below (hb9.mono hB8.size); clear ra1_8
  have ra3_9 := ra3_8.below (hb9.mono hB8.size); clear ra3_8
  have x0_9 := x0_8.then_ hb9; clear x0_8
  have x1_9 := x1_8.then_ hb9; clear x1_8
  have x3_9 := x3_8.then_ hb9; clear x3_8
  have t0_9 := t0; clear t0
  have blk_t0 := t0_9.blk
  go_wp2_with fail
  ((with_reducible refine (eqItemS_same _ _ _ _ _ xs0 _ hm0 ?_ ?_).mono ?_); (exact x0_9.row); (exact t0_9.row); rintro e w10 ⟨rfl, hb10⟩)
  have hz10 := hb10.size
  have hB10 := below_then (Nat.le_refl _) hB9 hb10
  have ra0_10 := ra0_9.below (hb10.mono hB9.size); clear ra0_9
  have ra1_10 := ra1_9.below (hb10.mono hB9.size); clear ra1_9
  have ra3_10 := ra3_9.below (hb10.mono hB9.size); clear ra3_9
  have x0_10 := x0_9.then_ hb10; clear x0_9
  have x1_10 := x1_9.then_ hb10; clear x1_9
  have x3_10 := x3_9.then_ hb10; clear x3_9
  have t0_10 := t0_9.then_ hb10; clear t0_9
  clear t0_10
  go_wp2_with fail
  ((with_reducible refine (toIntS_any _ _ _ xs1 _ HN1.out hsm1 ?_).mono ?_); (exact (ra1_10.more hB10.size)); rintro e w11 ⟨rfl, t1, hb11⟩)
  have hz11 := hb11.size
  have hB11 := below_then (Nat.le_refl _) hB10 hb11
  have ra0_11 := ra0_10.below (hb11.mono hB10.size); clear ra0_10
  have ra1_11 := ra1_10.below (hb11.mono hB10.size); clear ra1_10
  have ra3_11 := ra3_10.below (hb11.mono hB10.size); clear ra3_10
  have x0_11 := x0_10.then_ hb11; clear x0_10
  have x1_11 := x1_10.then_ hb11; clear x1_10
  have x3_11 := x3_10.then_ hb11; clear x3_10
  have t1_11 := t1; clear t1
  have blk_t1 := t1_11.blk
  go_wp2_with fail
  ((with_reducible refine (eqIntS_same _ _ _ _ _ xs1 _ hm1 ?_ ?_).mono ?_); (exact x1_11.row); (exact t1_11.row); rintro e w12 ⟨rfl, hb12⟩)
  have hz12 := hb12.size
  have hB12 := below_then (Nat.le_refl _) hB11 hb12
  have ra0_12 := ra0_11.below (hb12.mono hB11.size); clear ra0_11
  have ra1_12 := ra1_11.below (hb12.mono hB11.size); clear ra1_11
  have ra3_12 := ra3_11.below (hb12.mono hB11.size); clear ra3_11
  have x0_12 := x0_11.then_ hb12; clear x0_11
  have x1_12 := x1_11.then_ hb12; clear x1_11
  have x3_12 := x3_11.then_ hb12; clear x3_11
  have t1_12 := t1_11.then_ hb12; clear t1_11
  clear t1_12
  go_wp2_with fail
  ((with_reducible refine (toIntS_any _ _ _ xs3 _ HN3.out hsm3 ?_).mono ?_); (exact (ra3_12.more hB12.size)); rintro e w13 ⟨rfl, t3, hb13⟩)
  have hz13 := hb13.size
  have hB13 := below_then (Nat.le_refl _) hB12 hb13
  have ra0_13 := ra0_12.below (hb13.mono hB12.size); clear ra0_12
  have ra1_13 := ra1_12.below (hb13.mono hB12.size); clear ra1_12
  have ra3_13 := ra3_12.below (hb13.mono hB12.size); clear ra3_12
  have x0_13 := x0_12.then_ hb13; clear x0_12
  have x1_13 := x1_12.then_ hb13; clear x1_12
  have x3_13 := x3_12.then_ hb13; clear x3_12
  have t3_13 := t3; clear t3
  have blk_t3 := t3_13.blk
  go_wp2_with fail
  ((with_reducible refine (eqIntS_same _ _ _ _ _ xs3 _ hm3 ?_ ?_).mono ?_); (exact x3_13.row); (exact t3_13.row); rintro e w14 ⟨rfl, hb14⟩)
  have hz14 := hb14.size
  have hB14 := below_then (Nat.le_refl _) hB13 hb14
  have ra0_14 := ra0_13.below (hb14.mono hB13.size); clear ra0_13
  have ra1_14 := ra1_13.below (hb14.mono hB13.size); clear ra1_13
  have ra3_14 := ra3_13.below (hb14.mono hB13.size); clear ra3_13
  have x0_14 := x0_13.then_ hb14; clear x0_13
  have x1_14 := x1_13.then_ hb14; clear x1_13
  have x3_14 := x3_13.then_ hb14; clear x3_13
  have t3_14 := t3_13.then_ hb14; clear t3_13
  clear t3_14
  go_wp2_with fail
  go_returns
  exact ⟨rfl, hB14⟩
end Go.Proofs.Ytkmipgekmbngcaa
/- DrawCheckBreaks of the reference, and the law on checks for one width: FnCheckShape answers true. Conditions: the code is a slice of bytes. -/
namespace Go.Proofs.Ytkmipgekmbngcaa
open Go.RowKit

/-- What a call leaves that draws items, a width, a tolerance and breaks, out of a code. -/
def CheckOut (w : World) (e : Ending) (w' : World) : Prop :=
  ∃ (g n c : Nat) (xs : List It) (d tol : Int) (B : Option Addr) (q cb : Nat) (bs : List Int), e = .returned (.tuple #[.slice (some ⟨g, 0, none⟩) n c, .int .i64 d, .int .i64 tol, .slice B q cb]) ∧ xs.length = n ∧ n ≤ 23 ∧ (n ≤ c ∧ c ≤ maxLen) ∧ Row w' w'.heap.size 6 (some ⟨g, 0, none⟩) n (itc xs) ∧ bs.length = q ∧ q ≤ n ∧ Row w' w'.heap.size 1 B q (inc bs) ∧ Below w.heap.size w w'

set_option maxHeartbeats 1000000 in
theorem DrawCheckBreaks_any (A : Option Addr) (n cap : Nat) (cs : List Int) (w : World) (hc : Code w A n cap cs) :
    Calls Try.prog 16 #[.slice A n cap] w (CheckOut w) := by
  obtain ⟨h1, h2, h3, h4, h5⟩ := hc
  have HH := Lib.hid h4; clear h4
  go_enter Try.func16, Try.ntmps16
  go_wp2_with fail
  ((with_reducible refine (newReader_any _ _ _ cs _ h1 h2 h3 HH.out h5).mono ?_); rintro e w1 ⟨rfl, hr1, hb1⟩)
  have hs1 := hb1.size
  have hl1 := hr1.lt
  go_wp2_with fail
  ((with_reducible refine (anyItems_any _ _ _ hr1 (by omega)).mono ?_); rintro e w2 ⟨g, m, c, xs, p', rfl, hx, hm, hcp, hrow, hg, hp, hr2, ho2⟩)
  have HX := Lib.hid hx; clear hx
  have hb2 : Below w.heap.size w w2 := hb1.trans (below_of_only ho2 (Nat.le_refl _) hs1)
  have hs2 := hb2.size
  go_wp2_with fail
  ((with_reducible refine (someWidth_any _ _ _ hr2 (by omega)).mono ?_); rintro e w3 ⟨x, p3, rfl, hx0, hx1, hp3, hr3, ho3⟩)
  have hb3 : Below w.heap.size w w3 := hb2.trans (below_of_only ho3 (Nat.le_refl _) hs2)
  have hs3 := hb3.size
  have hrow3 := (Row.only hrow ho3 (by intro x hx; cases hx; simp; omega) (Nat.le_refl _)).more ho3.size
  go_wp2_with fail
  ((with_reducible refine (someTolerance_any _ _ _ hr3 (by omega)).mono ?_); rintro e w4 ⟨y, p4, rfl, hy0, hy1, hp4, hr4, ho4⟩)
  have hb4 : Below w.heap.size w w4 := hb3.trans (below_of_only ho4 (Nat.le_refl _) hs3)
  have hs4 := hb4.size
  have hrow4 := (Row.only hrow3 ho4 (by intro x hx; cases hx; simp; omega) (Nat.le_refl _)).more ho4.size
  go_wp2_with fail
  ((with_reducible refine (someBreaks_any _ p4 _ m c x y xs _ HX.out (by omega) ?_ ?_ hr4 (by omega)).mono ?_); (exact hrow4); (intro x hx; cases hx; simp; omega); rintro e w5 ⟨B, q, cb, bs, p5, rfl, hq, hqn, hown, hp5, hr5, ho5⟩)
  have hb5 : Below w.heap.size w w5 := hb4.trans (below_of_only ho5 (Nat.le_refl _) hs4)
  have hrow5 := (Row.only hrow4 ho5 (by intro x hx; cases hx; simp; omega) (Nat.le_refl _)).more ho5.size
  go_wp2_with fail
  (first | go_returns | (refine bodyPost_ret (by simp [results, Try.results16, go_sem, *]; try rfl) rfl ?_))
  exact ⟨g, m, c, xs, x, y, B, q, cb, bs, rfl, HX.out, hm, hcp, hrow5, hq, hqn, hown.row, hb5⟩
theorem row_one (w : World) (t : TypeId) (d : Int) : Row (w.alloc (.cells #[.int .i64 d] t)) (w.heap.size + 1) 1 (some ⟨w.heap.size, 0, none⟩) 1 (inc [d]) := fun _ => by
  refine ⟨w.heap.size, 0, rfl, by omega, fun i j hi hj => ?_⟩
  obtain rfl : i = 0 := by omega
  obtain rfl : j = 0 := by omega
  exact (Blk.new w t #[.int .i64 d]).cell 0

set_option maxRecDepth 100000 in
set_option maxHeartbeats 4000000 in
theorem law_CheckShape (A : Option Addr) (n cap : Nat) (cs : List Int) (w : World) (hc : Code w A n cap cs) :
    Calls Try.prog 7 #[.slice A n cap] w fun e w' => e = .returned (.bool true) ∧ Below w.heap.size w w' := by
  have hn := hc.1
  unfold maxLen at hn
  by_cases hbig : 1048576 < n
  · go_enter Try.func7, Try.ntmps7
    go_wp2
    go_returns
    exact ⟨rfl, Below.refl _ _⟩
  go_enter Try.func7, Try.ntmps7
  go_wp2_with fail
  ((with_reducible refine (DrawCheckBreaks_any _ _ _ cs _ hc).mono ?_); rintro e w1 ⟨g, m, c, xs, d, tol, B, q, cb, bs, rfl, hx, hm, hcp, hr1, hq, hqm, ho1, hb1⟩)
  have HX := Lib.hid hx; clear hx
  have HQ := Lib.hid hq; clear hq
  have HCP := Lib.hid hcp; clear hcp
  have hmx : m ≤ maxLen := by unfold maxLen; omega
  have hqx : q ≤ maxLen := by unfold maxLen; omega
  have h1x : 1 ≤ maxLen := by unfold maxLen; omega
  obtain ⟨V, hV⟩ : ∃ V, chkV xs [d] tol bs = V := ⟨_, rfl⟩
  obtain ⟨v, hv⟩ : ∃ v, V.getD 0 = v := ⟨_, rfl⟩
  obtain ⟨o, ho⟩ : ∃ o, V.isSome = o := ⟨_, rfl⟩
  have HV := Lib.hid hV
  have HC := Lib.hid hv
  have HO := Lib.hid ho
  clear hV hv ho
  go_wp2_with fail
  ((with_reducible refine ((checkBreaks_i _ _ _ _ _ _ d tol xs bs _ HX.out hmx HCP.out ?_ HQ.out hqx ?_).mono fun _ _ h => opt_form HV.out HC.out HO.out h).mono ?_); (exact hr1); (exact ho1); rintro e w2 ⟨rfl, hb2⟩)
  have hr2 := hr1.then_ hb2
  have ho2 := ho1.then_ hb2
  have hB2 := below_then (Nat.le_refl _) hb1 hb2
  go_wp2_with fail
  ((with_reducible refine ((checkBreaks_s _ _ _ _ _ _ d tol xs bs _ HX.out hmx ?_ HQ.out hqx ?_).mono fun _ _ h => opt_form HV.out HC.out HO.out h).mono ?_); (exact hr2); (exact ho2); rintro e w3 ⟨rfl, hb3⟩)
  have hr3 := Lib.hid ((hr2.then_ hb3).alloc' (.cells #[.int .i64 d] 3))
  have ho3 := Lib.hid ((ho2.then_ hb3).alloc' (.cells #[.int .i64 d] 3))
  have hB3 := below_then (Nat.le_refl _) hB2 hb3
  have hB3a := hB3.alloc hB3.size (.cells #[.int .i64 d] 3)
  have hd3 := Lib.hid (row_one w3 3 d)
  have hvv : (v == v) = true := by simp
  have hoo : (o == o) = true := by simp
  clear hr1 hr2 ho1 ho2
  go_wp2_with fail
  ((with_reducible refine ((checkShape_i _ _ _ _ _ _ _ _ _ tol xs [d] bs _ HX.out hmx HCP.out ?_ (show [d].length = 1 from rfl) h1x ?_ HQ.out hqx ?_).mono fun _ _ h => opt_form HV.out HC.out HO.out h).mono ?_); (exact hr3.out); (exact hd3.out.more (by simp)); (exact ho3.out); rintro e w4 ⟨rfl, hb4⟩)
  go_wp2_with fail
  go_returns
  exact ⟨by simp, below_then (Nat.le_refl _) hB3a hb4⟩
end Go.Proofs.Ytkmipgekmbngcaa
