/- BestBreaks of the reference returns the cheapest way over the nodes of a paragraph. Conditions: the slice reads as the list. -/
import Derived.Test.YtkmipgekmbngcaaBestTable
import Derived.Test.YtkmipgekmbngcaaMSb2
import Derived.Test.YtkmipgekmbngcaaMSb1
import Derived.BigQuiet
namespace Go.Proofs.Ytkmipgekmbngcaa
open Go.RowKit

/-- What BestBreaks returns, over the nodes. -/
def bbN (xs : List It) (n : Nat) (d tol : Int) : List Int × Int × Bool := match Dp.tbl (ndC xs d tol) n with
  | none => ([], 0, false)
  | some (v, _) => ((Dp.path (ndC xs d tol) n).map (fun (k : Nat) => (k : Int) - 1), v, true)
def bbS (xs : List It) (d tol : Int) : List Int × Int × Bool := if itemsOk xs && widthOk d && inR tol 0 10000 then bbN xs xs.length d tol else ([], 0, false)
theorem bbN_none {xs : List It} {n : Nat} {d tol : Int} (h : Dp.tbl (ndC xs d tol) n = none) : bbN xs n d tol = ([], 0, false) := by rw [bbN, h]
theorem bbN_some {xs : List It} {n k : Nat} {d tol v : Int} (h : Dp.tbl (ndC xs d tol) n = some (v, k)) : bbN xs n d tol = ((Dp.path (ndC xs d tol) n).map (fun (k : Nat) => (k : Int) - 1), v, true) := by rw [bbN, h]
theorem one_own (w : World) (t : TypeId) (v : Value) : (w.alloc (.cells #[v] t)).ownsRow w.heap.size t 1 (.slice (some ⟨w.heap.size, 0, none⟩) 1 1) 1 [v] :=
  ⟨rfl, .inr ⟨w.heap.size, 1, #[v], rfl, Nat.le_refl _, heap_alloc_new w _, Nat.le_refl _, by unfold maxLen; omega, rfl, rfl⟩⟩

set_option maxRecDepth 100000 in
set_option maxHeartbeats 8000000 in
theorem bestBreaks_S (A : Option Addr) (n cap : Nat) (d tol : Int) (xs : List It) (w : World) (hn : xs.length = n) (hm : n ≤ maxLen) (hr : Row w w.heap.size 6 A n (itc xs)) :
    Calls Try.prog 30 #[.slice A n cap, .int .i64 d, .int .i64 tol] w (PathOut w (bbS xs d tol)) := by
  have hE := Lib.hid (owns_nil _ w.heap.size 3 1 0 _ _ (Blk.new w 3 #[]) (Nat.le_refl _) (by unfold maxLen; omega) rfl)
  have hb0 : Below w.heap.size w (w.alloc (.cells #[] 3)) := (Below.refl _ _).alloc (Nat.le_refl _) _
  have HR0 := Lib.hid (hr.then_ hb0)
  have HN := Lib.hid hn
  rcases hok : itemsOk xs with _ | _
  · have E := Lib.hid (show bbS xs d tol = ([], 0, false) by rw [bbS, hok]; rfl)
    have HV := Lib.hid hok
    clear hr hok hn
    go_enter Try.func30, Try.ntmps30
    go_wp2_with fail
    ((with_reducible refine (validItems_s _ _ _ xs _ HN.out hm ?_).mono ?_); (exact HR0.out); rintro e w1 ⟨rfl, hb⟩)
    rw [HV.out]
    go_wp2_with fail
    (first | go_returns | (refine bodyPost_ret (by simp [results, Try.results30, go_sem, *]; try rfl) rfl ?_))
    exact ⟨none, 0, by rw [E.out]; rfl, by rw [E.out]; exact ⟨rfl, .inl ⟨rfl, rfl⟩⟩, below_then (by simp) hb0 hb⟩
  rcases hwo : widthOk d with _ | _
  · have E := Lib.hid (show bbS xs d tol = ([], 0, false) by rw [bbS, hok, hwo]; rfl)
    have HV := Lib.hid hok
    have HW := Lib.hid hwo
    clear hr hok hn hwo
    go_enter Try.func30, Try.ntmps30
    go_wp2_with fail
    ((with_reducible refine (validItems_s _ _ _ xs _ HN.out hm ?_).mono ?_); (exact HR0.out); rintro e w1 ⟨rfl, hb⟩)
    rw [HV.out]
    go_wp2_with fail
    ((with_reducible refine (validWidth_any _ _).mono ?_); rintro e w' ⟨rfl, rfl⟩)
    rw [HW.out]
    go_wp2_with fail
    (first | go_returns | (refine bodyPost_ret (by simp [results, Try.results30, go_sem, *]; try rfl) rfl ?_))
    exact ⟨none, 0, by rw [E.out]; rfl, by rw [E.out]; exact ⟨rfl, .inl ⟨rfl, rfl⟩⟩, below_then (by simp) hb0 hb⟩
  rcases hto : inR tol 0 10000 with _ | _
  · have E := Lib.hid (show bbS xs d tol = ([], 0, false) by rw [bbS, hok, hwo, hto]; rfl)
    have HV := Lib.hid hok
    have HW := Lib.hid hwo
    have HT := Lib.hid hto
    clear hr hok hn hwo hto
    go_enter Try.func30, Try.ntmps30
    go_wp2_with fail
    ((with_reducible refine (validItems_s _ _ _ xs _ HN.out hm ?_).mono ?_); (exact HR0.out); rintro e w1 ⟨rfl, hb⟩)
    rw [HV.out]
    go_wp2_with fail
    ((with_reducible refine (validWidth_any _ _).mono ?_); rintro e w' ⟨rfl, rfl⟩)
    rw [HW.out]
    go_wp2_with fail
    ((with_reducible refine (inRange_any _ _ _ _).mono ?_); rintro e w' ⟨rfl, rfl⟩)
    rw [HT.out]
    go_wp2_with fail
    (first | go_returns | (refine bodyPost_ret (by simp [results, Try.results30, go_sem, *]; try rfl) rfl ?_))
    exact ⟨none, 0, by rw [E.out]; rfl, by rw [E.out]; exact ⟨rfl, .inl ⟨rfl, rfl⟩⟩, below_then (by simp) hb0 hb⟩
  have h60 := itemsOk_len hok hn
  obtain ⟨d0, d1⟩ := inR_iff.1 hwo
  have HE := Lib.hid (show bbS xs d tol = bbN xs n d tol by rw [bbS, hok, hwo, hto, hn]; rfl)
  obtain ⟨x, rfl⟩ : ∃ x, n = x + 1 := ⟨n - 1, by omega⟩
  obtain ⟨j0, ji, jz0, jz1, jz2⟩ := info_parts int_info
  have HV := Lib.hid hok
  have HW := Lib.hid hwo
  have HT := Lib.hid hto
  have HTR : Hid (∀ i k v, i ≤ 60 → Dp.tbl (ndC xs d tol) i = some (v, k) → -12000000000 ≤ v ∧ v ≤ 12000000000) := fun i k v hi h => ndT_rng hok hn d0 d1 hi h
  have HDI := Lib.hid (show ((x + 1 : Nat) : Int) - 1 = (x : Int) by omega)
  have wD : IntKind.i64.wrap (((x + 1 : Nat) : Int) - 1) = (x : Int) := by rw [HDI.out]; exact IntWalk.i64_in _ (by omega)
  clear hok hn hr hwo hto
  go_enter Try.func30, Try.ntmps30
  go_wp2_with fail
  ((with_reducible refine (validItems_s _ _ _ xs _ HN.out hm ?_).mono ?_); (exact HR0.out); rintro e w1 ⟨rfl, hb⟩)
  rw [HV.out]
  have hz := hb.size
  simp at hz
  have hB1 := below_then (by simp) hb0 hb
  go_wp2_with fail
  ((with_reducible refine (validWidth_any _ _).mono ?_); rintro e w' ⟨rfl, rfl⟩)
  rw [HW.out]
  go_wp2_with fail
  ((with_reducible refine (inRange_any _ _ _ _).mono ?_); rintro e w' ⟨rfl, rfl⟩)
  rw [HT.out]
  have hE1 := Lib.hid (OwnI.then_ (show OwnI _ w.heap.size (some ⟨w.heap.size, 0, none⟩) 0 0 [] from hE.out) hb)
  go_wp2_with fail
  ((with_reducible refine (bestTable_s _ _ _ _ _ xs _ HV.out HN.out d0 d1 ?_).mono ?_); (exact HR0.out.then_ hb); rintro e w2 ⟨rfl, hown0, hown1, hown2, hbt⟩)
  have OA := Lib.hid hown0
  have OB := Lib.hid hown1
  have OC := Lib.hid hown2
  have hBo := below_then (Nat.le_refl _) hB1 hbt
  have hE2 := Lib.hid (hE1.out.then_ hbt)
  have hst := hbt.size
  clear hown0 hown1 hown2
  obtain ⟨c, hc⟩ : ∃ c, ndC xs d tol = c := ⟨_, rfl⟩
  have hBN := HE.out
  rw [hc] at OA OB OC HTR
  have z0 := OA.out.cell1 (i := x) (by omega)
  have z2 := OC.out.cell1 (i := x) (by omega)
  have gl := OC.out.lt
  have hxI : (x : Int) < ((x + 1 : Nat) : Int) := by omega
  rcases hT : Dp.tbl c (x + 1) with _ | p
  · rw [hT] at z0 z2
    simp only [en3, Option.getD_none, Option.isSome_none] at z0 z2
    rw [← hc] at hT
    have E := Lib.hid (hBN.trans (bbN_none hT))
    clear hT hBN hc HE
    go_wp2_with fail
    (first | go_returns | (refine bodyPost_ret (by simp [results, Try.results30, go_sem, *]; try rfl) rfl ?_))
    exact ⟨none, 0, by rw [E.out]; rfl, by rw [E.out]; exact ⟨rfl, .inl ⟨rfl, rfl⟩⟩, hBo⟩
  · obtain ⟨v, f⟩ := p
    rw [hT] at z0 z2
    simp only [en3, Option.getD_some, Option.isSome_some] at z0 z2
    have hT' := hT
    rw [← hc] at hT'
    obtain ⟨X, hX⟩ : ∃ X, (Dp.path c (x + 1)).map (fun (k : Nat) => (k : Int) - 1) = X := ⟨_, rfl⟩
    have HEE := Lib.hid (show bbS xs d tol = (X, v, true) by rw [hBN, bbN_some hT', hc, hX])
    have HX := Lib.hid hX
    have HT := Lib.hid hT
    clear hT hX hT' hBN hc HE
    go_wp2_with fail
    go_loopg [9, 14] (x + 1) (fun k ov pv wi => ∃ (p q d g : Nat) (F : Int) (L : List Int), k = p ∧ p ≤ x + 1 ∧ pv = .int .i64 F ∧ Hid (F = (p : Int) - 1) ∧ ov = .slice (some ⟨g, 0, none⟩) q d ∧ q + p ≤ x + 1 ∧ Hid (∃ u f, Dp.tbl c p = some (u, f)) ∧ Hid ((Dp.path c p).map (fun (k : Nat) => (k : Int) - 1) ++ L = X) ∧ Hid (OwnI wi w.heap.size (some ⟨g, 0, none⟩) q d L) ∧ Below w2.heap.size w2 wi)
    case atStart => exact ⟨x + 1, 0, 0, w.heap.size, x, [], rfl, Nat.le_refl _, rfl, (by show _ = _; omega), rfl, by omega, ⟨v, f, HT.out⟩, (by show _ = _; rw [List.append_nil]; exact HX.out), hE2.out, Below.refl _ _⟩
    case round =>
      obtain ⟨p, q, d, g0, F, L, hk, hpn, rfl, hF, rfl, hqp, htb, hpath, hownl, hbl⟩ := hrel
      have HK := Lib.hid hk; clear hk
      have hszl := hbl.size
      have hBl := below_then (Nat.le_refl _) hBo hbl
      have hst := OB.out.then_ hbl
      rcases p with _ | y
      · obtain rfl : F = -1 := by have := hF.out; omega
        have hfin : L = X := by have := hpath.out; rwa [Dp.path_zero] at this
        have hlen := hownl.out.len
        have z4 := (OA.out.then_ hbl).cell1 (i := x) (by omega)
        rw [HT.out] at z4
        simp only [en3, Option.getD_some] at z4
        have HF := Lib.hid hfin
        have HLEN := Lib.hid hlen
        clear hfin hst htb hlen
        go_wp2_with fail
        go_quiet (fail)
        go_wp2_with fail
        (first | go_returns | (refine bodyPost_ret (by simp [results, Try.results30, go_sem, *]; try rfl) rfl ?_))
        have hq : X.length = q := by rw [← HF.out, HLEN.out]
        refine ⟨some ⟨g0, 0, none⟩, d, by rw [HEE.out]; show _ = Ending.returned (.tuple #[.slice (some ⟨g0, 0, none⟩) X.length d, .int .i64 v, .bool true]); rw [hq]; rfl, ?_, by (repeat' (first | (with_reducible exact Below.refl _ _) | (with_reducible assumption) | (with_reducible refine Below.alloc ?_ ?_ _) | (with_reducible refine Below.drew ?_) | (with_reducible refine below_drewN ?_ _) | (with_reducible refine Below.setCell ?_ ?_ _) | (with_reducible refine below_then ?_ ?_ (by with_reducible assumption)) | (with_reducible exact Nat.le_refl _) | go_size | (simp only [*]; done)))⟩
        rw [HEE.out]
        show OwnI _ w.heap.size (some ⟨g0, 0, none⟩) X.length d X
        rw [hq, ← HF.out]
        exact hownl.out.drewN _
      · obtain rfl : F = (y : Int) := by have := hF.out; omega
        obtain ⟨u, g, hug⟩ := htb.out
        obtain ⟨hgp, u2, g2, _, hug2, _⟩ := Dp.tbl_some (Nat.succ_pos y) hug
        have hpp := hpath.out
        rw [Dp.path_pos (Nat.succ_pos y) hug, List.map_append, List.append_assoc] at hpp
        simp only [List.map_cons, List.map_nil, show ((y + 1 : Nat) : Int) - 1 = (y : Int) by omega] at hpp
        have hyI : (y : Int) < ((x + 1 : Nat) : Int) := by omega
        have k1 := hst.cell1 (i := y) (by omega)
        rw [hug] at k1
        simp only [en3] at k1
        have HO := Lib.hid (one_own wr 3 (.int .i64 (y : Int)))
        have HO2 := Lib.hid (OwnI.alloc hownl.out (.cells #[.int .i64 (y : Int)] 3))
        have HS := Lib.hid (show wr.heap.size ≤ (wr.alloc (.cells #[.int .i64 (y : Int)] 3)).heap.size by simp)
        have hgl2 := hst.lt
        obtain ⟨G, hG⟩ : ∃ G : Int, (g : Int) - 1 = G := ⟨_, rfl⟩
        rw [hG] at k1
        have K4 : ∀ w4, (wr.alloc (.cells #[.int .i64 (y : Int)] 3)).grownBy w4 (some wr.heap.size) → w4.cell? ⟨w1.heap.size + 1, y, none⟩ = some (.int .i64 G) ∧ Below w2.heap.size w2 w4 := fun w4 hg => by
          refine ⟨hg.cell ((World.cell?_alloc_lt wr _ ⟨w1.heap.size + 1, y, none⟩ hgl2).trans k1) (fun e => by injection e with e; simp only at e; omega), ?_⟩
          exact (hbl.alloc (by omega) _).grown hg (by simp; omega) (fun k hk => by injection hk; omega)
        have HK4 := Lib.hid K4
        have HP := Lib.hid hpp
        have HG := Lib.hid hug2
        have HGG := Lib.hid hG
        clear k1 K4 hpp hug hug2 hst htb hG z0 z2
        go_wp2_with (at_builtin; (refine wpList_append_two _ rfl _ _ 24 rfl wr.heap.size 3 j0 _ 1 8 Try.underlying24 ji jz0 jz1 jz2 rfl (by omega) wr.heap.size 1 1 [.int .i64 (y : Int)] rfl HO.out g0 q d w.heap.size (inl L) rfl HO2.out (inl_one _) (by omega) (by omega) HS.out ?_); intro g' d' w4 hown4 hgr4; have HO4 := Lib.hid hown4; obtain ⟨k4, hbp4⟩ := HK4.out w4 hgr4; clear hown4 hgr4)
        go_roundg g
        case measure => have := HK.out; omega
        case rel =>
          refine ⟨g, 1 + q, d', g', G, (y : Int) :: L, rfl, by omega, by go_num, HGG.out.symm, rfl, by omega, ⟨u2, g2, HG.out⟩, ?_, ?_, hbp4⟩
          · show _ = _
            exact HP.out
          · show OwnI w4 w.heap.size (some ⟨g', 0, none⟩) (1 + q) d' ((y : Int) :: L)
            exact OwnI.mono (base := wr.heap.size) HO4.out (by omega)
end Go.Proofs.Ytkmipgekmbngcaa
