/- CheckBreaks, of the program and of the reference, returns what CheckShape returns for a shape of one width. Conditions: the slices read as lists. -/
import Derived.Test.YtkmipgekmbngcaaCheckShapeS
namespace Go.Proofs.Ytkmipgekmbngcaa
open Go.RowKit Go.Shelf

theorem shape_one (d : Int) : shapeOk [d] = widthOk d := by simp [shapeOk, inR]
theorem wof_one (d : Int) (k : Nat) : wof [d] k = d := by
  rw [wof]
  simp
theorem lcV_some_w {xs : List It} {d tol f t c : Int} (h : lcV xs d tol f t = some c) : widthOk d = true := by
  rcases hw : widthOk d with _ | _
  · rw [lcV_no2 hw] at h; cases h
  · rfl

theorem validBreaking_i (A : Option Addr) (n cap : Nat) (d tol : Int) (xs : List It) (w : World) (hn : xs.length = n) (hm : n ≤ maxLen) (hr : Row w w.heap.size 6 A n (itc xs)) :
    Calls Try.prog 52 #[.slice A n cap, .int .i64 d, .int .i64 tol] w fun e w' => e = .returned (.bool (itemsOk xs && widthOk d && inR tol 0 10000)) ∧ Below w.heap.size w w' := by
  obtain ⟨p, hp⟩ : ∃ p, itemsOk xs = p := ⟨_, rfl⟩
  obtain ⟨q, hq⟩ : ∃ q, widthOk d = q := ⟨_, rfl⟩
  obtain ⟨r, hr'⟩ : ∃ r, inR tol 0 10000 = r := ⟨_, rfl⟩
  rw [hp, hq, hr']
  have HP := Lib.hid hp
  have HQ : Hid (inR d 1 10000 = q) := hq
  have HR := Lib.hid hr'
  clear hp hq hr'
  rcases p with _ | _
  · go_enter Try.func52, Try.ntmps52
    go_wp2_with fail
    ((with_reducible refine (validItems_i _ _ _ xs _ hn hm ?_).mono ?_); (exact hr); rintro e w1 ⟨rfl, hb1⟩)
    rw [HP.out]
    go_wp2_with fail
    go_ret
    exact ⟨rfl, hb1⟩
  rcases q with _ | _
  · go_enter Try.func52, Try.ntmps52
    go_wp2_with fail
    ((with_reducible refine (validItems_i _ _ _ xs _ hn hm ?_).mono ?_); (exact hr); rintro e w1 ⟨rfl, hb1⟩)
    rw [HP.out]
    go_wp2_with fail
    ((with_reducible refine (within_any _ _ _ _).mono ?_); rintro e w' ⟨rfl, rfl⟩)
    rw [HQ.out]
    go_wp2_with fail
    go_ret
    exact ⟨rfl, hb1⟩
  · go_enter Try.func52, Try.ntmps52
    go_wp2_with fail
    ((with_reducible refine (validItems_i _ _ _ xs _ hn hm ?_).mono ?_); (exact hr); rintro e w1 ⟨rfl, hb1⟩)
    rw [HP.out]
    go_wp2_with fail
    ((with_reducible refine (within_any _ _ _ _).mono ?_); rintro e w' ⟨rfl, rfl⟩)
    rw [HQ.out]
    go_wp2_with fail
    ((with_reducible refine (within_any _ _ _ _).mono ?_); rintro e w' ⟨rfl, rfl⟩)
    rw [HR.out]
    go_wp2_with fail
    go_ret
    exact ⟨rfl, hb1⟩

theorem breakFn_i (g : Nat) (d : Int) (k : Nat) (w : World) (hg : Blk w g 3 #[.int .i64 d]) :
    Calls Try.prog 53 #[.int .i64 (k : Int), .pointer (some ⟨g, 0, none⟩)] w fun e w' => e = .returned (.int .i64 d) ∧ Below w.heap.size w w' := by
  have plt := hg.lt
  have pc0 := hg.cell 0; have pf0 := hg.frozen 0
  simp only [List.getElem?_toArray, List.getElem?_cons_zero] at pc0
  go_enter Try.func53, Try.ntmps53
  go_wp2_with fail
  go_ret
  exact ⟨rfl, Below.refl _ _⟩

set_option maxRecDepth 100000 in
set_option maxHeartbeats 2000000 in
theorem checkBreaks_i (A B : Option Addr) (n cap nb capb : Nat) (d tol : Int) (xs : List It) (bs : List Int) (w : World) (hn : xs.length = n) (hm : n ≤ maxLen) (hcap : n ≤ cap ∧ cap ≤ maxLen) (hr : Row w w.heap.size 6 A n (itc xs))
    (hnb : bs.length = nb) (hmb : nb ≤ maxLen) (hrb : Row w w.heap.size 1 B nb (inc bs)) :
    Calls Try.prog 17 #[.slice A n cap, .int .i64 d, .int .i64 tol, .slice B nb capb] w fun e w' => e = .returned (optV (chkV xs [d] tol bs)) ∧ Below w.heap.size w w' := by
  have HR := Lib.hid hr
  have HRB := Lib.hid hrb
  have HNB := Lib.hid hnb
  have eg : ∀ args w, (callFunc 53 args).run Try.prog w = .ok (.enter 53 args) w := enters_of Try.func53 (by kernel_rfl) rfl
  have EG := Lib.hid eg
  have g0 := Blk.new w 3 #[.int .i64 d]
  have G0 := Lib.hid g0
  have hB0 : Below w.heap.size w (w.alloc (.cells #[.int .i64 d] 3)) := (Below.refl _ _).alloc (Nat.le_refl _) _
  clear eg hrb hnb
  rcases hv : (itemsOk xs && widthOk d && inR tol 0 10000) with _ | _
  · have HE := Lib.hid (show chkV xs [d] tol bs = none by rw [chkV, shape_one, hv]; rfl)
    have HV := Lib.hid hv
    have plt := g0.lt
    have pc0 := g0.cell 0; have pf0 := g0.frozen 0
    simp only [List.getElem?_toArray, List.getElem?_cons_zero] at pc0
    clear hv g0
    go_enter Try.func17, Try.ntmps17
    go_wp2_with fail
    ((with_reducible refine (validBreaking_i _ _ _ _ _ xs _ hn hm ?_).mono ?_); (exact HR.out.then_ hB0); rintro e w1 ⟨rfl, hb1⟩)
    rw [HV.out]
    go_wp2_with fail
    (first | go_returns | (refine bodyPost_ret (by simp [results, Try.results17, go_sem, *]; try rfl) rfl ?_))
    exact ⟨by rw [HE.out]; rfl, below_then (Nat.le_refl _) hB0 hb1⟩
  have hfun : wof [d] = fun _ => d := funext fun k => wof_one d k
  have HE := Lib.hid (show chkV xs [d] tol bs = chkP xs (fun _ => d) tol bs by rw [chkV, shape_one, hv, hfun]; rfl)
  have HV := Lib.hid hv
  rw [Bool.and_eq_true, Bool.and_eq_true] at hv
  obtain ⟨⟨hv1, hv2⟩, _⟩ := hv
  have HV1 := Lib.hid hv1
  have hd := inR_iff.1 hv2
  have plt := g0.lt
  have pc0 := g0.cell 0; have pf0 := g0.frozen 0
  simp only [List.getElem?_toArray, List.getElem?_cons_zero] at pc0
  clear hv1 hv2 g0 hfun
  go_enter Try.func17, Try.ntmps17
  go_wp2_with fail
  ((with_reducible refine (validBreaking_i _ _ _ _ _ xs _ hn hm ?_).mono ?_); (exact HR.out.then_ hB0); rintro e w1 ⟨rfl, hb1⟩)
  rw [HV.out]
  have g1 := G0.out.then_ hb1
  have hB1 := below_then (Nat.le_refl _) hB0 hb1
  go_wp2_with fail
  ((with_reducible refine (sumLines_i 53 #[.pointer (some ⟨w.heap.size, 0, none⟩)] _ _ _ _ _ _ xs bs (fun _ => d) _ _ EG.out HV1.out hn hcap ?_ HNB.out hmb ?_ (fun _ => hd) ?_).mono ?_); (exact HR.out.then_ hB1); (exact HRB.out.then_ hB1); rotate_left; rintro e w3 ⟨rfl, hb3⟩)
  · have hB3 := below_then (Nat.le_refl _) hB1 hb3
    go_wp2_with fail
    (first | go_returns | (refine bodyPost_ret (by simp [results, Try.results17, go_sem, *]; try rfl) rfl ?_))
    exact ⟨by rw [HE.out]; rfl, hB3⟩
  · intro k W hk hW
    exact breakFn_i _ _ k W (g1.then_ hW)

set_option maxRecDepth 100000 in
set_option maxHeartbeats 8000000 in
theorem checkBreaks_s (A B : Option Addr) (n cap nb capb : Nat) (d tol : Int) (xs : List It) (bs : List Int) (w : World) (hn : xs.length = n) (hm : n ≤ maxLen) (hr : Row w w.heap.size 6 A n (itc xs))
    (hnb : bs.length = nb) (hmb : nb ≤ maxLen) (hrb : Row w w.heap.size 1 B nb (inc bs)) :
    Calls Try.prog 18 #[.slice A n cap, .int .i64 d, .int .i64 tol, .slice B nb capb] w fun e w' => e = .returned (optV (chkV xs [d] tol bs)) ∧ Below w.heap.size w w' := by
  have hm' := hm
  unfold maxLen at hmb hm'
  have HN := Lib.hid hn
  have HR := Lib.hid hr
  have HRB := Lib.hid hrb
  have HNB := Lib.hid hnb
  clear hr hrb hnb hn
  go_enter Try.func18, Try.ntmps18
  go_wp2_with fail
  go_loopg [10, 11, 12] nb (fun k sv fv i wr => ∃ (j : Nat) (s f : Int), j ≤ nb ∧ k = nb - j ∧ i = .int .i64 (j : Int) ∧ sv = .int .i64 s ∧ fv = .int .i64 f ∧ ((j : Int) ≤ f + 1 ∧ f ≤ 60 ∧ -200000000 * (j : Int) ≤ s ∧ s ≤ 200000000 * (j : Int)) ∧ Hid (0 < j → (itemsOk xs && inR tol 0 10000) = true ∧ widthOk d = true) ∧ Hid (sumJ xs (wof [d]) tol bs j = some s) ∧ Hid (frm bs j = f) ∧ Below w.heap.size w wr)
  case atStart => exact ⟨0, 0, -1, Nat.zero_le _, rfl, rfl, rfl, rfl, ⟨by omega, by omega, by omega, by omega⟩, fun h => absurd h (by omega), rfl, rfl, Below.refl _ _⟩
  case round =>
    obtain ⟨j, s, f, hj, hk, rfl, rfl, rfl, ⟨j0, j1, s0, s1⟩, hg, hs, hf, hbel⟩ := hrel
    have HK := Lib.hid hk; clear hk
    have hsz := hbel.size
    by_cases hlt : j < nb
    · obtain ⟨b, off, rfl, hb, hc⟩ := HRB.out (by omega)
      obtain ⟨t, ht⟩ : ∃ t, bs.getD j default = t := ⟨_, rfl⟩
      have c0 : wr.cell? ⟨b, off + j, none⟩ = some (.int .i64 t) := by
        have := (hbel.cell (p := ⟨b, off + j, none⟩) hb).trans (by have := hc j 0 hlt (by omega); simpa only [inc, ht, Nat.mul_one, Nat.add_zero] using this)
        exact this
      have hjn : (j : Int) < (nb : Int) := by omega
      have HT := Lib.hid ht
      obtain ⟨o, ho⟩ : ∃ o, lcV xs d tol f t = o := ⟨_, rfl⟩
      have HO := Lib.hid ho
      clear ht hc ho
      go_wp2_with fail
      ((with_reducible refine (lineCost_S _ _ _ _ _ _ _ xs _ HN.out hm ?_).mono ?_); (exact (HR.out.below hbel).more hbel.size); rintro e w2 ⟨rfl, hb2⟩)
      rw [HO.out, optV]
      have hB2 := below_then (Nat.le_refl _) hbel hb2
      rcases o with _ | v
      · have HE := Lib.hid (chkV_bad HNB.out hs.out hlt (by rw [hf.out, HT.out, wof_one]; exact HO.out))
        simp only [Option.getD_none, Option.isSome_none]
        go_wp2_with fail
        (first | go_returns | (refine bodyPost_ret (by simp [results, Try.results18, go_sem, *]; try rfl) rfl ?_))
        exact ⟨by rw [HE.out]; rfl, hB2⟩
      · obtain ⟨hg2, hlc⟩ := lcV_some _ _ _ HO.out
        have hgw := lcV_some_w HO.out
        have hok : itemsOk xs = true := by rw [Bool.and_eq_true] at hg2; exact hg2.1
        have hwj : 1 ≤ d ∧ d ≤ 10000 := inR_iff.1 hgw
        obtain ⟨k1, k2, k3, k4, k5⟩ := lc_some hok HN.out hwj.1 hwj.2 hlc
        have h60 := (itemsOk_len hok HN.out).2
        have HS := Lib.hid (sumJ_yes hs.out (by rw [hf.out, HT.out, wof_one]; exact hlc))
        have HG := Lib.hid (And.intro hg2 hgw)
        clear hg2 hlc hok hwj hgw
        simp only [Option.getD_some, Option.isSome_some]
        have c2 := (hb2.cell (p := ⟨b, off + j, none⟩) (Nat.lt_of_lt_of_le hb hsz)).trans c0
        go_wp2_with fail
        go_roundg (nb - (j + 1))
        case measure => have := HK.out; omega
        case rel => exact ⟨j + 1, s + v, t, by omega, rfl, by go_num, rfl, rfl, ⟨by omega, by omega, by omega, by omega⟩, fun _ => HG.out, HS.out, by show _ = _; rw [frm_succ, HT.out], by (repeat' (first | (with_reducible exact Below.refl _ _) | (with_reducible assumption) | (with_reducible refine Below.alloc ?_ ?_ _) | (with_reducible refine Below.drew ?_) | (with_reducible refine below_drewN ?_ _) | (with_reducible refine Below.setCell ?_ ?_ _) | (with_reducible refine below_then ?_ ?_ (by with_reducible assumption)) | (with_reducible exact Nat.le_refl _) | go_size | (simp only [*]; done)))⟩
    · have ej : j = nb := by omega
      subst ej
      by_cases hz : j = 0
      · subst hz
        have HE := Lib.hid (chkV_zero (xs := xs) (sh := [d]) (tol := tol) HNB.out)
        go_wp2_with fail
        (first | go_returns | (refine bodyPost_ret (by simp [results, Try.results18, go_sem, *]; try rfl) rfl ?_))
        exact ⟨by rw [HE.out]; rfl, hbel⟩
      have hzf : ((j : Int) == 0) = false := by simpa using hz
      by_cases hq : f = (n : Int) - 1
      · have HE := Lib.hid (chkV_end HNB.out HN.out (by omega) (hg.out (by omega)).1 (by rw [shape_one]; exact (hg.out (by omega)).2) hs.out hf.out hq)
        have hqf : (f == (n : Int) - 1) = true := by simpa using hq
        go_wp2_with fail
        (first | go_returns | (refine bodyPost_ret (by simp [results, Try.results18, go_sem, *]; try rfl) rfl ?_))
        exact ⟨by rw [HE.out]; rfl, hbel⟩
      · have HE := Lib.hid (chkV_last (sh := [d]) (tol := tol) HNB.out HN.out (by omega) hf.out hq)
        have hqf : (f == (n : Int) - 1) = false := by simpa using hq
        go_wp2_with fail
        (first | go_returns | (refine bodyPost_ret (by simp [results, Try.results18, go_sem, *]; try rfl) rfl ?_))
        exact ⟨by rw [HE.out]; rfl, hbel⟩
end Go.Proofs.Ytkmipgekmbngcaa
