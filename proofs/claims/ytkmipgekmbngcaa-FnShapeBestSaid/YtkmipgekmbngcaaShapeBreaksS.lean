/- ShapeBreaks of the reference returns the cheapest breaks for a shape. Conditions: the slices read as lists. -/
import Derived.Test.YtkmipgekmbngcaaShapeTabS
import Derived.Test.YtkmipgekmbngcaaBestBreaksS
namespace Go.Proofs.Ytkmipgekmbngcaa
open Go.RowKit

def bJ (o : Option (Int × Nat)) : Int := match o with
  | none => -1
  | some p => (p.2 : Int)
theorem ST.drewN {w : World} {base N : Nat} {a cp ln : Nat → Nat} {G : Nat → Nat → Nat} {C : Nat → Nat → Nat → Option Int} (h : ST w base N a cp ln G C) (k : Nat) : ST (w.drewN k) base N a cp ln G C := h

set_option maxRecDepth 100000 in
set_option maxHeartbeats 8000000 in
theorem shapeBreaks_S (A S : Option Addr) (n cap ns capn : Nat) (tol : Int) (xs : List It) (sh : List Int) (w : World) (hn : xs.length = n) (hm : n ≤ maxLen) (hr : Row w w.heap.size 6 A n (itc xs)) (hns : sh.length = ns) (hms : ns ≤ maxLen) (hrs : Row w w.heap.size 1 S ns (inc sh)) :
    Calls Try.prog 12 #[.slice A n cap, .slice S ns capn, .int .i64 tol] w (PathOut w (shV xs sh tol)) := by
  have hE := Lib.hid (owns_nil _ w.heap.size 3 1 0 _ _ (Blk.new w 3 #[]) (Nat.le_refl _) (by unfold maxLen; omega) rfl)
  have hb0 : Below w.heap.size w (w.alloc (.cells #[] 3)) := (Below.refl _ _).alloc (Nat.le_refl _) _
  have HR0 := Lib.hid (hr.then_ hb0)
  have HS0 := Lib.hid (hrs.then_ hb0)
  have HN := Lib.hid hn
  have HNS := Lib.hid hns
  rcases hok : itemsOk xs with _ | _
  · have E := Lib.hid (show shV xs sh tol = ([], 0, false) from shV_no (by rw [hok]; rfl))
    have HV := Lib.hid hok
    clear hr hok hn hns hrs
    go_enter Try.func12, Try.ntmps12
    go_wp2_with fail
    ((with_reducible refine (validItems_s _ _ _ xs _ HN.out hm ?_).mono ?_); (exact HR0.out); rintro e w1 ⟨rfl, hb⟩)
    rw [HV.out]
    go_wp2_with fail
    (first | go_returns | (refine bodyPost_ret (by simp [results, Try.results12, go_sem, *]; try rfl) rfl ?_))
    rw [E.out]
    exact ⟨none, 0, rfl, ownI_none _ _, below_then (by simp) hb0 hb⟩
  rcases hwo : shapeOk sh with _ | _
  · have E := Lib.hid (show shV xs sh tol = ([], 0, false) from shV_no (by rw [hok, hwo]; rfl))
    have HV := Lib.hid hok
    have HW := Lib.hid hwo
    clear hr hok hn hwo hns hrs
    go_enter Try.func12, Try.ntmps12
    go_wp2_with fail
    ((with_reducible refine (validItems_s _ _ _ xs _ HN.out hm ?_).mono ?_); (exact HR0.out); rintro e w1 ⟨rfl, hb⟩)
    rw [HV.out]
    have hB1 := below_then (by simp) hb0 hb
    go_wp2_with fail
    ((with_reducible refine (validShape_s _ _ _ sh _ HNS.out hms ?_).mono ?_); (exact HS0.out.then_ hb); rintro e w2 ⟨rfl, hb2⟩)
    rw [HW.out]
    go_wp2_with fail
    (first | go_returns | (refine bodyPost_ret (by simp [results, Try.results12, go_sem, *]; try rfl) rfl ?_))
    rw [E.out]
    exact ⟨none, 0, rfl, ownI_none _ _, below_then (Nat.le_refl _) hB1 hb2⟩
  rcases hto : inR tol 0 10000 with _ | _
  · have E := Lib.hid (show shV xs sh tol = ([], 0, false) from shV_no (by rw [hok, hwo, hto]; rfl))
    have HV := Lib.hid hok
    have HW := Lib.hid hwo
    have HT := Lib.hid hto
    clear hr hok hn hwo hto hns hrs
    go_enter Try.func12, Try.ntmps12
    go_wp2_with fail
    ((with_reducible refine (validItems_s _ _ _ xs _ HN.out hm ?_).mono ?_); (exact HR0.out); rintro e w1 ⟨rfl, hb⟩)
    rw [HV.out]
    have hB1 := below_then (by simp) hb0 hb
    go_wp2_with fail
    ((with_reducible refine (validShape_s _ _ _ sh _ HNS.out hms ?_).mono ?_); (exact HS0.out.then_ hb); rintro e w2 ⟨rfl, hb2⟩)
    rw [HW.out]
    go_wp2_with fail
    ((with_reducible refine (inRange_any _ _ _ _).mono ?_); rintro e w' ⟨rfl, rfl⟩)
    rw [HT.out]
    go_wp2_with fail
    (first | go_returns | (refine bodyPost_ret (by simp [results, Try.results12, go_sem, *]; try rfl) rfl ?_))
    rw [E.out]
    exact ⟨none, 0, rfl, ownI_none _ _, below_then (Nat.le_refl _) hB1 hb2⟩
  have h60 := itemsOk_len hok hn
  have HE := Lib.hid (show shV xs sh tol = pathS (shC xs sh tol) nd1 n from shV_yes hn (by rw [hok, hwo, hto]; rfl))
  obtain ⟨j0, ji, jz0, jz1, jz2⟩ := info_parts int_info
  obtain ⟨x0, hx0⟩ : ∃ x, n = x + 1 := ⟨n - 1, by omega⟩
  have HX0 := Lib.hid hx0.symm
  have hnI : (n : Int) - 1 = (x0 : Int) := by omega
  have wx : IntKind.i64.wrap (x0 : Int) = (x0 : Int) := IntWalk.i64_in _ (by omega)
  have hxI : (x0 : Int) < (n : Int) := by omega
  have hxn : x0 < n := by omega
  have HV := Lib.hid hok
  have HW := Lib.hid hwo
  have HT := Lib.hid hto
  clear hok hn hr hwo hto hns hrs hx0
  go_enter Try.func12, Try.ntmps12
  go_wp2_with fail
  ((with_reducible refine (validItems_s _ _ _ xs _ HN.out hm ?_).mono ?_); (exact HR0.out); rintro e w1 ⟨rfl, hb⟩)
  rw [HV.out]
  have hB1 := below_then (by simp) hb0 hb
  go_wp2_with fail
  ((with_reducible refine (validShape_s _ _ _ sh _ HNS.out hms ?_).mono ?_); (exact HS0.out.then_ hb); rintro e w2 ⟨rfl, hb2⟩)
  rw [HW.out]
  have hB2 := below_then (Nat.le_refl _) hB1 hb2
  go_wp2_with fail
  ((with_reducible refine (inRange_any _ _ _ _).mono ?_); rintro e w' ⟨rfl, rfl⟩)
  rw [HT.out]
  have hE2 := Lib.hid (OwnI.then_ (OwnI.then_ (show OwnI _ w.heap.size (some ⟨w.heap.size, 0, none⟩) 0 0 [] from hE.out) hb) hb2)
  go_wp2_with fail
  ((with_reducible refine (shapeTable_s _ _ _ _ _ _ tol xs sh _ HV.out HW.out HN.out ?_ HNS.out ?_).mono ?_); (exact (HR0.out.then_ hb).then_ hb2); (exact (HS0.out.then_ hb).then_ hb2); rintro e w3 ⟨a, cp, G, rfl, hst, hbt⟩)
  have HST := Lib.hid hst
  have hBo := below_then (Nat.le_refl _) hB2 hbt
  have hE3 := Lib.hid (hE2.out.then_ hbt)
  have hs3 := hbt.size
  clear hst
  obtain ⟨C, hc⟩ : ∃ C, shC xs sh tol = C := ⟨_, rfl⟩
  rw [hc] at HST HE
  clear hc
  go_wp2_with fail
  go_loopg [14, 15] n (fun k bv lv wi => ∃ (l : Nat) (b : Int), l ≤ n ∧ k = n - l ∧ lv = .int .i64 (l : Int) ∧ bv = .int .i64 b ∧ Hid (bJ (Dp.bestL (fun l => (Dp.T2 C (l + 1) n).map Prod.fst) l) = b) ∧ Below w3.heap.size w3 wi)
  case atStart => exact ⟨0, -1, Nat.zero_le _, rfl, rfl, rfl, rfl, Below.refl _ _⟩
  case round =>
    obtain ⟨l, b, hl, hk, rfl, rfl, hb', hbel⟩ := hrel
    have HK := Lib.hid hk; clear hk
    have hsz := hbel.size
    have hsto := HST.out.then_ hbel
    obtain ⟨wo, hwo⟩ : ∃ wo : World, wo = wr := ⟨_, rfl⟩
    subst hwo
    by_cases hll : l < n
    · have hlI : (l : Int) < (n : Int) := by omega
      obtain ⟨BL, hBL⟩ : ∃ BL, Dp.bestL (fun l => (Dp.T2 C (l + 1) n).map Prod.fst) l = BL := ⟨_, rfl⟩
      have hbb := hb'.out
      rw [hBL] at hbb
      have o2 := hsto.outer (q := 2) (x := l) (by omega) hll
      have o0 := hsto.outer (q := 0) (x := l) (by omega) hll
      have y2 := hsto.inner (q := 2) (x := l) (i := x0) (by omega) hll hxn
      have y0 := hsto.inner (q := 0) (x := l) (i := x0) (by omega) hll hxn
      rw [HX0.out] at y2 y0
      rcases hX : Dp.T2 C (l + 1) n with _ | ⟨v, f⟩
      · rw [hX] at y0 y2
        simp only [en3, Option.getD_none, Option.isSome_none] at y0 y2
        have E := Lib.hid (show bJ (Dp.bestL (fun l => (Dp.T2 C (l + 1) n).map Prod.fst) (l + 1)) = b by rw [Dp.bestL_no (by simp only [hX]; rfl), hBL]; exact hbb)
        clear hX hBL hsto hbb
        go_wp2_with fail
        go_quiet (fail)
        go_wp2_with fail
        go_roundg (n - (l + 1))
        case measure => have := HK.out; omega
        case rel => exact ⟨l + 1, b, by omega, rfl, by go_num, rfl, E.out, by (repeat' (first | (with_reducible exact Below.refl _ _) | (with_reducible assumption) | (with_reducible refine Below.alloc ?_ ?_ _) | (with_reducible refine Below.drew ?_) | (with_reducible refine below_drewN ?_ _) | (with_reducible refine Below.setCell ?_ ?_ _) | (with_reducible refine below_then ?_ ?_ (by with_reducible assumption)) | (with_reducible exact Nat.le_refl _) | go_size | (simp only [*]; done)))⟩
      rw [hX] at y0 y2
      simp only [en3, Option.getD_some, Option.isSome_some] at y0 y2
      rcases BL with _ | ⟨bv, i⟩
      · have hb1 : b = -1 := hbb.symm
        subst hb1
        have E := Lib.hid (show bJ (Dp.bestL (fun l => (Dp.T2 C (l + 1) n).map Prod.fst) (l + 1)) = (l : Int) by rw [Dp.bestL_first (by simp only [hX]; rfl) hBL]; rfl)
        clear hX hBL hsto hbb
        go_wp2_with fail
        go_quiet (fail)
        go_wp2_with fail
        go_roundg (n - (l + 1))
        case measure => have := HK.out; omega
        case rel => exact ⟨l + 1, (l : Int), by omega, rfl, by go_num, rfl, E.out, by (repeat' (first | (with_reducible exact Below.refl _ _) | (with_reducible assumption) | (with_reducible refine Below.alloc ?_ ?_ _) | (with_reducible refine Below.drew ?_) | (with_reducible refine below_drewN ?_ _) | (with_reducible refine Below.setCell ?_ ?_ _) | (with_reducible refine below_then ?_ ?_ (by with_reducible assumption)) | (with_reducible exact Nat.le_refl _) | go_size | (simp only [*]; done)))⟩
      · have hb1 : b = (i : Int) := hbb.symm
        subst hb1
        obtain ⟨hil, hi1, _⟩ := Dp.bestL_some _ _ _ hBL
        obtain ⟨ki, hi2⟩ := fst_some hi1
        have oB := hsto.outer (q := 0) (x := i) (by omega) (by omega)
        have yB := hsto.inner (q := 0) (x := i) (i := x0) (by omega) (by omega) hxn
        rw [HX0.out, hi2] at yB
        simp only [en3, Option.getD_some] at yB
        have hiI : decide ((i : Int) < 0) = false := decide_eq_false (by omega)
        have hiN : (i : Int) < (n : Int) := by omega
        by_cases hless : v < bv
        · have hd := decide_eq_true hless
          have E := Lib.hid (show bJ (Dp.bestL (fun l => (Dp.T2 C (l + 1) n).map Prod.fst) (l + 1)) = (l : Int) by rw [Dp.bestL_less (by simp only [hX]; rfl) hBL hless]; rfl)
          clear hX hBL hsto hbb hi1 hi2 hless
          go_wp2_with fail
          go_quiet (fail)
          go_wp2_with fail
          go_roundg (n - (l + 1))
          case measure => have := HK.out; omega
          case rel => exact ⟨l + 1, (l : Int), by omega, rfl, by go_num, rfl, E.out, by (repeat' (first | (with_reducible exact Below.refl _ _) | (with_reducible assumption) | (with_reducible refine Below.alloc ?_ ?_ _) | (with_reducible refine Below.drew ?_) | (with_reducible refine below_drewN ?_ _) | (with_reducible refine Below.setCell ?_ ?_ _) | (with_reducible refine below_then ?_ ?_ (by with_reducible assumption)) | (with_reducible exact Nat.le_refl _) | go_size | (simp only [*]; done)))⟩
        · have hd := decide_eq_false hless
          have E := Lib.hid (show bJ (Dp.bestL (fun l => (Dp.T2 C (l + 1) n).map Prod.fst) (l + 1)) = (i : Int) by rw [Dp.bestL_keep (by simp only [hX]; rfl) hBL hless]; rfl)
          clear hX hBL hsto hbb hi1 hi2 hless
          go_wp2_with fail
          go_quiet (fail)
          go_wp2_with fail
          go_roundg (n - (l + 1))
          case measure => have := HK.out; omega
          case rel => exact ⟨l + 1, (i : Int), by omega, rfl, by go_num, rfl, E.out, by (repeat' (first | (with_reducible exact Below.refl _ _) | (with_reducible assumption) | (with_reducible refine Below.alloc ?_ ?_ _) | (with_reducible refine Below.drew ?_) | (with_reducible refine below_drewN ?_ _) | (with_reducible refine Below.setCell ?_ ?_ _) | (with_reducible refine below_then ?_ ?_ (by with_reducible assumption)) | (with_reducible exact Nat.le_refl _) | go_size | (simp only [*]; done)))⟩
    · have el : l = n := by omega
      have hlI : decide ((l : Int) < (n : Int)) = false := decide_eq_false (by omega)
      obtain ⟨BL, hBL⟩ : ∃ BL, Dp.bestL (fun l => (Dp.T2 C (l + 1) n).map Prod.fst) n = BL := ⟨_, rfl⟩
      have hbb := hb'.out
      rw [el, hBL] at hbb
      have hB4 := below_then (Nat.le_refl _) hBo hbel
      rcases BL with _ | ⟨v, i⟩
      · have hb1 : b = -1 := hbb.symm
        subst hb1
        have E := Lib.hid (HE.out.trans (pathS_none (f := nd1) hBL))
        clear hBL hbb hsto el
        go_wp2_with fail
        (first | go_returns | (refine bodyPost_ret (by simp [results, Try.results12, go_sem, *]; try rfl) rfl ?_))
        rw [E.out]
        exact ⟨none, 0, rfl, ownI_none _ _, hB4⟩
      · have hb1 : b = (i : Int) := hbb.symm
        subst hb1
        obtain ⟨X, hX⟩ : ∃ X, (Dp.path2 C (i + 1) n).map nd1 = X := ⟨_, rfl⟩
        have E := Lib.hid (HE.out.trans ((pathS_some (f := nd1) hBL).trans (by rw [hX])))
        obtain ⟨hil, hi1, _⟩ := Dp.bestL_some _ _ _ hBL
        obtain ⟨ki, hi2⟩ := fst_some hi1
        have hiI : decide ((i : Int) < 0) = false := decide_eq_false (by omega)
        have hiN : (i : Int) < (n : Int) := by omega
        have HXX := Lib.hid hX
        have HT2 := Lib.hid hi2
        have hE4 := Lib.hid (hE3.out.then_ hbel)
        have hin60 : i ≤ 60 := by omega
        clear hBL hbb hsto el hi1 hi2 hX
        go_wp2_with fail
        go_loopg [9, 16, 17] (i + 1) (fun k ov av lv wi => ∃ (p q d g y : Nat) (L : List Int) (F P : Int), k = p ∧ p ≤ i + 1 ∧ lv = .int .i64 P ∧ Hid (P = (p : Int) - 1) ∧ av = .int .i64 F ∧ Hid (F = (y : Int) - 1) ∧ y ≤ n ∧ ov = .slice (some ⟨g, 0, none⟩) q d ∧ q + p ≤ i + 1 ∧ Hid (∃ u f, Dp.T2 C p y = some (u, f)) ∧ Hid ((Dp.path2 C p y).map nd1 ++ L = X) ∧ Hid (OwnI wi w.heap.size (some ⟨g, 0, none⟩) q d L) ∧ Below w3.heap.size w3 wi)
        case atStart => exact ⟨i + 1, 0, 0, w.heap.size, n, [], (x0 : Int), (i : Int), rfl, Nat.le_refl _, rfl, (by show _ = _; omega), rfl, (by show _ = _; omega), Nat.le_refl _, rfl, by omega, ⟨v, ki, HT2.out⟩, (by show _ = _; rw [List.append_nil]; exact HXX.out), hE4.out, hbel⟩
        case round =>
          obtain ⟨p, q, d, g0, y, L, F, P, hk2, hp, rfl, hP, rfl, hF, hy, rfl, hqp, htb, hpath, hownl, hbl⟩ := hrel
          have HK2 := Lib.hid hk2; clear hk2
          have hszl := hbl.size
          have hBl := below_then (Nat.le_refl _) hBo hbl
          have hst := HST.out.then_ hbl
          rcases p with _ | p
          · obtain rfl : P = -1 := by have := hP.out; omega
            have hfin : L = X := by have := hpath.out; rwa [Dp.path2_zero] at this
            have hlen := hownl.out.len
            have oB := hst.outer (q := 0) (x := i) (by omega) hil
            have yB := hst.inner (q := 0) (x := i) (i := x0) (by omega) hil hxn
            rw [HX0.out, HT2.out] at yB
            simp only [en3, Option.getD_some] at yB
            have HF := Lib.hid hfin
            have HLEN := Lib.hid hlen
            clear hfin hst htb hlen
            go_wp2_with fail
            go_quiet (fail)
            go_wp2_with fail
            (first | go_returns | (refine bodyPost_ret (by simp [results, Try.results12, go_sem, *]; try rfl) rfl ?_))
            have hq : X.length = q := by rw [← HF.out, HLEN.out]
            refine ⟨some ⟨g0, 0, none⟩, d, by rw [E.out]; show _ = Ending.returned (.tuple #[.slice (some ⟨g0, 0, none⟩) X.length d, .int .i64 v, .bool true]); rw [hq]; rfl, ?_, by (repeat' (first | (with_reducible exact Below.refl _ _) | (with_reducible assumption) | (with_reducible refine Below.alloc ?_ ?_ _) | (with_reducible refine Below.drew ?_) | (with_reducible refine below_drewN ?_ _) | (with_reducible refine Below.setCell ?_ ?_ _) | (with_reducible refine below_then ?_ ?_ (by with_reducible assumption)) | (with_reducible exact Nat.le_refl _) | go_size | (simp only [*]; done)))⟩
            rw [E.out]
            show OwnI _ w.heap.size (some ⟨g0, 0, none⟩) X.length d X
            rw [hq, ← HF.out]
            exact hownl.out.drewN _
          · obtain rfl : P = (p : Int) := by have := hP.out; omega
            obtain ⟨u, f, hug⟩ := htb.out
            obtain ⟨hfy, u', f', s, hug2, _, _⟩ := Dp.T2_some hug
            obtain ⟨z, rfl⟩ : ∃ z, y = z + 1 := ⟨y - 1, by omega⟩
            obtain rfl : F = (z : Int) := by have := hF.out; omega
            have hpp := hpath.out
            rw [Dp.path2_succ hug, List.map_append, List.append_assoc] at hpp
            simp only [List.map_cons, List.map_nil, nd1, show ((z + 1 : Nat) : Int) - 1 = (z : Int) by omega] at hpp
            have hzI : (z : Int) < (n : Int) := by omega
            have hpI : (p : Int) < (n : Int) := by omega
            have o1 := hst.outer (q := 1) (x := p) (by omega) (by omega)
            have k1 := hst.inner (q := 1) (x := p) (i := z) (by omega) (by omega) (by omega)
            rw [hug] at k1
            simp only [en3] at k1
            have HO := Lib.hid (one_own wr 3 (.int .i64 (z : Int)))
            have HO2 := Lib.hid (OwnI.alloc hownl.out (.cells #[.int .i64 (z : Int)] 3))
            have HS := Lib.hid (show wr.heap.size ≤ (wr.alloc (.cells #[.int .i64 (z : Int)] 3)).heap.size by simp)
            have hgA := hst.ltA (q := 1) (by omega)
            have hgG := hst.ltG (q := 1) (x := p) (by omega) (by omega)
            obtain ⟨F', hF'⟩ : ∃ F' : Int, (f : Int) - 1 = F' := ⟨_, rfl⟩
            rw [hF'] at k1
            have K4 : ∀ w4, (wr.alloc (.cells #[.int .i64 (z : Int)] 3)).grownBy w4 (some wr.heap.size) → w4.cell? ⟨a 1, p, none⟩ = some (.slice (some ⟨G 1 p, 0, none⟩) n n) ∧ w4.cell? ⟨G 1 p, z, none⟩ = some (.int .i64 F') ∧ Below w3.heap.size w3 w4 := fun w4 hg => by
              refine ⟨hg.cell ((World.cell?_alloc_lt wr _ ⟨a 1, p, none⟩ hgA).trans o1) (fun e => by injection e with e; simp only at e; omega), hg.cell ((World.cell?_alloc_lt wr _ ⟨G 1 p, z, none⟩ hgG).trans k1) (fun e => by injection e with e; simp only at e; omega), ?_⟩
              exact (hbl.alloc (by omega) _).grown hg (by simp; omega) (fun k hk => by injection hk; omega)
            have HK4 := Lib.hid K4
            have HP := Lib.hid hpp
            have HG := Lib.hid hug2
            have HGG := Lib.hid hF'
            clear k1 o1 K4 hpp hug hug2 hst htb hF'
            go_wp2_with (at_builtin; (refine wpList_append_two _ rfl _ _ 24 rfl wr.heap.size 3 j0 _ 1 8 Try.underlying24 ji jz0 jz1 jz2 rfl (by omega) wr.heap.size 1 1 [.int .i64 (z : Int)] rfl HO.out g0 q d w.heap.size (inl L) rfl HO2.out (inl_one _) (by omega) (by omega) HS.out ?_); intro g' d' w4 hown4 hgr4; have HO4 := Lib.hid hown4; obtain ⟨k4, k5, hbp4⟩ := HK4.out w4 hgr4; clear hown4 hgr4)
            go_roundg p
            case measure => have := HK2.out; omega
            case rel =>
              refine ⟨p, 1 + q, d', g', f, (z : Int) :: L, F', (p : Int) - 1, rfl, by omega, by go_num, rfl, rfl, HGG.out.symm, by omega, rfl, by omega, ⟨u', f', HG.out⟩, ?_, ?_, hbp4⟩
              · show _ = _
                exact HP.out
              · show OwnI w4 w.heap.size (some ⟨g', 0, none⟩) (1 + q) d' ((z : Int) :: L)
                exact OwnI.mono (base := wr.heap.size) HO4.out hBl.size
end Go.Proofs.Ytkmipgekmbngcaa
