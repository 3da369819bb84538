/- CheckShape of the reference returns what the plain function says. Conditions: the slices read as lists. -/
import Derived.Test.YtkmipgekmbngcaaCheckShape
namespace Go.Proofs.Ytkmipgekmbngcaa
open Go.RowKit

theorem optV_eq (o : Option Int) : Ending.returned (optV o) = Ending.returned (.tuple #[.int .i64 (o.getD 0), .bool o.isSome]) := rfl
section
variable {xs : List It} {sh bs : List Int} {tol s c : Int} {j n m : Nat}
theorem lcV_some (d f t : Int) (h : lcV xs d tol f t = some c) : (itemsOk xs && inR tol 0 10000) = true ∧ lc xs d tol f t = some c := by
  rw [lcV] at h
  split at h
  · rename_i hg
    simp only [Bool.and_eq_true] at hg
    exact ⟨by rw [hg.1.1, hg.2]; rfl, h⟩
  · cases h
theorem chkV_bad (hn : bs.length = n) (hs : sumJ xs (wof sh) tol bs j = some s) (hj : j < n) (h : lcV xs (wof sh j) tol (frm bs j) (bs.getD j default) = none) : chkV xs sh tol bs = none := by
  rw [chkV]
  split
  · rename_i hg
    simp only [Bool.and_eq_true] at hg
    rw [lcV_yes hg.1.1 (inR_iff.2 (wof_bound hg.1.2 j)) hg.2] at h
    exact chk_none hn (sumJ_no1 hs h) hj
  · rfl
theorem frm_end (h : 0 < n) : frm bs n = bs.getD (n - 1) default := by rw [frm, if_neg (by omega)]
theorem chkV_zero (hn : bs.length = 0) : chkV xs sh tol bs = none := chkV_of_none (chk_zero hn)
theorem chkV_last (hn : bs.length = n) (hx : xs.length = m) (hp : 0 < n) {f : Int} (hf : frm bs n = f) (h : ¬ f = (m : Int) - 1) : chkV xs sh tol bs = none := by
  obtain ⟨k, rfl⟩ : ∃ k, n = k + 1 := ⟨n - 1, by omega⟩
  rw [frm_succ] at hf
  exact chkV_of_none (chk_last hn (by rw [hf, hx]; exact h))
theorem chkV_end (hn : bs.length = n) (hx : xs.length = m) (hp : 0 < n) (h0 : (itemsOk xs && inR tol 0 10000) = true) (h1 : shapeOk sh = true) (hs : sumJ xs (wof sh) tol bs n = some s) {f : Int} (hf : frm bs n = f) (h : f = (m : Int) - 1) : chkV xs sh tol bs = some s := by
  obtain ⟨k, rfl⟩ : ∃ k, n = k + 1 := ⟨n - 1, by omega⟩
  rw [frm_succ] at hf
  rw [Bool.and_eq_true] at h0
  rw [chkV_yes h0.1 h1 h0.2, chk_end hn (by rw [hf, hx]; exact h), hs]
end

set_option maxRecDepth 100000 in
set_option maxHeartbeats 8000000 in
theorem checkShape_s (A S B : Option Addr) (n cap ns capn nb capb : Nat) (tol : Int) (xs : List It) (sh bs : List Int) (w : World) (hn : xs.length = n) (hm : n ≤ maxLen) (hr : Row w w.heap.size 6 A n (itc xs))
    (hns : sh.length = ns) (hms : ns ≤ maxLen) (hrs : Row w w.heap.size 1 S ns (inc sh)) (hnb : bs.length = nb) (hmb : nb ≤ maxLen) (hrb : Row w w.heap.size 1 B nb (inc bs)) :
    Calls Try.prog 23 #[.slice A n cap, .slice S ns capn, .int .i64 tol, .slice B nb capb] w fun e w' => e = .returned (optV (chkV xs sh tol bs)) ∧ Below w.heap.size w w' := by
  have hm' := hm
  unfold maxLen at hmb hm'
  have HN := Lib.hid hn
  have HR := Lib.hid hr
  have HRS := Lib.hid hrs
  have HRB := Lib.hid hrb
  have HNS := Lib.hid hns
  have HNB := Lib.hid hnb
  clear hr hrs hrb hnb hn
  rcases hw : shapeOk sh with _ | _
  · have HE := Lib.hid (chkV_no2 (xs := xs) (tol := tol) (bs := bs) hw)
    have HW := Lib.hid hw
    clear hw hns
    go_enter Try.func23, Try.ntmps23
    go_wp2_with fail
    ((with_reducible refine (validShape_s _ _ _ sh _ HNS.out hms ?_).mono ?_); (exact HRS.out); rintro e w1 ⟨rfl, hb1⟩)
    rw [HW.out]
    go_wp2_with fail
    (first | go_returns | (refine bodyPost_ret (by simp [results, Try.results23, go_sem, *]; try rfl) rfl ?_))
    exact ⟨by rw [HE.out]; rfl, hb1⟩
  obtain ⟨l1, l2⟩ := shapeOk_len hw
  rw [hns] at l1 l2
  have HW := Lib.hid hw
  clear hw hns
  go_enter Try.func23, Try.ntmps23
  go_wp2_with fail
  ((with_reducible refine (validShape_s _ _ _ sh _ HNS.out hms ?_).mono ?_); (exact HRS.out); rintro e w1 ⟨rfl, hb1⟩)
  rw [HW.out]
  go_wp2_with fail
  go_loopg [10, 11, 12] nb (fun k sv fv i wr => ∃ (j : Nat) (s f : Int), j ≤ nb ∧ k = nb - j ∧ i = .int .i64 (j : Int) ∧ sv = .int .i64 s ∧ fv = .int .i64 f ∧ ((j : Int) ≤ f + 1 ∧ f ≤ 60 ∧ -200000000 * (j : Int) ≤ s ∧ s ≤ 200000000 * (j : Int)) ∧ Hid (0 < j → (itemsOk xs && inR tol 0 10000) = true) ∧ Hid (sumJ xs (wof sh) tol bs j = some s) ∧ Hid (frm bs j = f) ∧ Below w.heap.size w wr)
  case atStart => exact ⟨0, 0, -1, Nat.zero_le _, rfl, rfl, rfl, rfl, ⟨by omega, by omega, by omega, by omega⟩, fun h => absurd h (by omega), rfl, rfl, hb1⟩
  case round =>
    obtain ⟨j, s, f, hj, hk, rfl, rfl, rfl, ⟨j0, j1, s0, s1⟩, hg, hs, hf, hbel⟩ := hrel
    have HK := Lib.hid hk; clear hk
    have hsz := hbel.size
    by_cases hlt : j < nb
    · obtain ⟨b, off, rfl, hb, hc⟩ := HRB.out (by omega)
      obtain ⟨t, ht⟩ : ∃ t, bs.getD j default = t := ⟨_, rfl⟩
      have c0 : wr.cell? ⟨b, off + j, none⟩ = some (.int .i64 t) := by
        have := (hbel.cell (p := ⟨b, off + j, none⟩) hb).trans (by have := hc j 0 hlt (by omega); simpa only [inc, ht, Nat.mul_one, Nat.add_zero] using this)
        exact this
      have hjn : (j : Int) < (nb : Int) := by omega
      have HT := Lib.hid ht
      obtain ⟨o, ho⟩ : ∃ o, lcV xs (wof sh j) tol f t = o := ⟨_, rfl⟩
      have HO := Lib.hid ho
      clear ht hc ho
      go_wp2_with fail
      obtain ⟨C, hC⟩ : ∃ C : World → Prop, ∀ w', C w' ↔ Below wr.heap.size wr w' := ⟨_, fun _ => Iff.rfl⟩
      have HCC := Lib.hid hC; clear hC
      refine region_quiet_tail C 15 (by kernel_rfl) (by kernel_rfl) ?_ ?_
      · exact (HCC.out _).2 (Below.refl _ _).drew
      simp only [List.take_succ_cons, List.take_zero, List.drop_succ_cons, List.drop_zero]
      generalize (List.toArray _ : Array Oper) = OPS
      iterate 15
        refine wpQuiet_step (fun K hK => ?_)
        rw [if_pos (by simp [Region.wanted])]
        apply Exists.intro
        refine ⟨fun w' hw' => ?_, hK _ ?_⟩
        · have z0 := (HCC.out _).1 hw'
          have hB' := below_then (Nat.le_refl _) hbel z0
          have k0 : w'.cell? ⟨b, off + j, none⟩ = some (.int .i64 t) := (z0.cell (p := ⟨b, off + j, none⟩) (Nat.lt_of_lt_of_le hb hsz)).trans c0
          go_simp
          first | (with_reducible rfl) | (go_at_call 65; (with_reducible refine (widthOf_s _ _ _ j sh _ HNS.out l1 l2 (by omega) ((HRS.out.below hB').more hB'.size)).mono ?_); rintro e w2 ⟨rfl, hb2⟩; exact ⟨rfl, (HCC.out _).2 (below_then (Nat.le_refl _) z0 hb2)⟩) | (go_at_call 54; (with_reducible refine (lineCost_S _ _ _ _ _ _ _ xs _ HN.out hm ((HR.out.below hB').more hB'.size)).mono ?_); rintro e w2 ⟨rfl, hb2⟩; rw [HO.out]; exact ⟨optV_eq o, (HCC.out _).2 (below_then (Nat.le_refl _) z0 hb2)⟩)
        clear hK K
        conv => arg 6; simp only [Act.put, List.setIfInBounds_toArray, List.set_cons_succ, List.set_cons_zero]
      refine wpQuiet_nil ?_
      intro w2 hw2
      have hB2 := below_then (Nat.le_refl _) hbel ((HCC.out _).1 hw2)
      rcases o with _ | v
      · have HE := Lib.hid (chkV_bad HNB.out hs.out hlt (by rw [hf.out, HT.out]; exact HO.out))
        simp only [Option.getD_none, Option.isSome_none]
        go_wp2_with fail
        (first | go_returns | (refine bodyPost_ret (by simp [results, Try.results23, go_sem, *]; try rfl) rfl ?_))
        exact ⟨by rw [HE.out]; rfl, hB2⟩
      · obtain ⟨hg2, hlc⟩ := lcV_some _ _ _ HO.out
        have hok : itemsOk xs = true := by rw [Bool.and_eq_true] at hg2; exact hg2.1
        have hwj := wof_bound HW.out j
        obtain ⟨k1, k2, k3, k4, k5⟩ := lc_some hok HN.out hwj.1 hwj.2 hlc
        have h60 := (itemsOk_len hok HN.out).2
        have HS := Lib.hid (sumJ_yes hs.out (by rw [hf.out, HT.out]; exact hlc))
        have HG := Lib.hid hg2
        clear hg2 hlc hok hwj
        simp only [Option.getD_some, Option.isSome_some]
        have c2 := (((HCC.out _).1 hw2).cell (p := ⟨b, off + j, none⟩) (Nat.lt_of_lt_of_le hb hsz)).trans c0
        go_wp2_with fail
        go_roundg (nb - (j + 1))
        case measure => have := HK.out; omega
        case rel => exact ⟨j + 1, s + v, t, by omega, rfl, by go_num, rfl, rfl, ⟨by omega, by omega, by omega, by omega⟩, fun _ => HG.out, HS.out, by show _ = _; rw [frm_succ, HT.out], by (repeat' (first | (with_reducible exact Below.refl _ _) | (with_reducible assumption) | (with_reducible refine Below.alloc ?_ ?_ _) | (with_reducible refine Below.drew ?_) | (with_reducible refine below_drewN ?_ _) | (with_reducible refine Below.setCell ?_ ?_ _) | (with_reducible refine below_then ?_ ?_ (by with_reducible assumption)) | (with_reducible exact Nat.le_refl _) | go_size | (simp only [*]; done)))⟩
    · have ej : j = nb := by omega
      subst ej
      by_cases hz : j = 0
      · subst hz
        have HE := Lib.hid (chkV_zero (xs := xs) (sh := sh) (tol := tol) HNB.out)
        go_wp2_with fail
        (first | go_returns | (refine bodyPost_ret (by simp [results, Try.results23, go_sem, *]; try rfl) rfl ?_))
        exact ⟨by rw [HE.out]; rfl, hbel⟩
      have hzf : ((j : Int) == 0) = false := by simpa using hz
      by_cases hq : f = (n : Int) - 1
      · have HE := Lib.hid (chkV_end HNB.out HN.out (by omega) (hg.out (by omega)) HW.out hs.out hf.out hq)
        have hqf : (f == (n : Int) - 1) = true := by simpa using hq
        go_wp2_with fail
        (first | go_returns | (refine bodyPost_ret (by simp [results, Try.results23, go_sem, *]; try rfl) rfl ?_))
        exact ⟨by rw [HE.out]; rfl, hbel⟩
      · have HE := Lib.hid (chkV_last (sh := sh) (tol := tol) HNB.out HN.out (by omega) hf.out hq)
        have hqf : (f == (n : Int) - 1) = false := by simpa using hq
        go_wp2_with fail
        (first | go_returns | (refine bodyPost_ret (by simp [results, Try.results23, go_sem, *]; try rfl) rfl ?_))
        exact ⟨by rw [HE.out]; rfl, hbel⟩
end Go.Proofs.Ytkmipgekmbngcaa
