/- The law on more space answers true: FnFigureSpace. Conditions: the codes are slices of bytes. -/
import Derived.Test.YtlgbeoghjjjlmaaPlaceS
import Derived.Test.YtlgbeoghjjjlmaaFigsDraw
import Derived.Test.YtlgbeoghjjjlmaaEqualInts
namespace Go.Proofs.Ytlgbeoghjjjlmaa
open Go.RowKit

def wideOf (r x : Int) : Int := if 10000 < x + 1 + r then 10000 else x + 1 + r
theorem wide_at {ss : List Int} {m q : Nat} {r : Int} (hs : ss.length = m) (hq : q < m) : (ss.map (wideOf r)).getD q default = wideOf r (ss.getD q default) := by
  rw [List.getD_eq_getElem?_getD, List.getD_eq_getElem?_getD, List.getElem?_map, List.getElem?_eq_getElem (by omega)]; rfl
theorem wide_more {xs : List Fg} {ss out : List Int} {n m : Nat} {r : Int} (hn : xs.length = n) (hs : ss.length = m) (h0 : 0 ≤ r) (h : placeV xs ss = (out, true)) :
    out.length = n ∧ ∃ out', placeV xs (ss.map (wideOf r)) = (out', true) ∧ out'.length = n ∧ ∀ i, i < n → out'.getD i default ≤ out.getD i default := by
  obtain ⟨h1, h2, l, pg, h3⟩ := place_true hn h
  have hsp := space_iff h2
  have hw : (ss.map (wideOf r)).length = m := by rw [List.length_map]; exact hs
  have hle : ∀ q, q < m → ss.getD q default ≤ (ss.map (wideOf r)).getD q default := by
    intro q hq
    rw [wide_at hs hq]
    have := hsp.2 _ (mem_of_getD hs hq rfl)
    unfold wideOf
    split <;> omega
  obtain ⟨l', pg', out', k1, _, k3, _, _, _, _, k8⟩ := pl_more h1 hn hs h2 hw hle n (Nat.le_refl _) l pg out h3
  have hwo : spaceOk (ss.map (wideOf r)) = true := by
    simp only [spaceOk, Bool.and_eq_true, decide_eq_true_eq]
    refine ⟨List.all_eq_true.2 fun y hy => ?_, by rw [hw, ← hs]; exact hsp.1⟩
    obtain ⟨x, hx, rfl⟩ := List.mem_map.1 hy
    have := hsp.2 x hx
    refine inR_iff.2 ?_
    unfold wideOf
    split <;> omega
  exact ⟨(pl_inv h1 hn hs h2 n (Nat.le_refl _) l pg out h3).2.2.2, out', place_yes h1 hwo hn k1, k3, k8⟩
theorem wide_snoc {ss : List Int} {m j : Nat} {x r : Int} (hs : ss.length = m) (hj : j < m) (hx : ss.getD j default = x) : (ss.take (j + 1)).map (wideOf r) = (ss.take j).map (wideOf r) ++ [wideOf r x] := by
  rw [tk_snoc' hs hj hx, List.map_append]; rfl
/-- What a call leaves that places figures. -/
def POut (w : World) (ys : List Int) (ok : Bool) (m : Nat) (e : Ending) (w' : World) : Prop := ∃ (A : Option Addr) (d : Nat), e = .returned (.tuple #[.slice A m d, .bool ok]) ∧ OwnI w' w.heap.size A m d ys ∧ Below w.heap.size w w'
theorem pout_of {w : World} {ys : List Int} {ok : Bool} {m : Nat} {r : List Int × Bool} (hr : r = (ys, ok)) (hm : ys.length = m) {e : Ending} {w' : World} (h : IntsOk w r.1 r.2 e w') : POut w ys ok m e w' := by
  subst hr
  obtain ⟨A, d, h1, h2, h3⟩ := h
  simp only at h1 h2
  rw [hm] at h1 h2
  exact ⟨A, d, h1, h2, h3⟩
theorem placeV_len {xs : List Fg} {ss : List Int} {n : Nat} (hn : xs.length = n) : (placeV xs ss).1.length ≤ n := by
  rcases h : placeV xs ss with ⟨ys, ok⟩
  rcases ok with _ | _
  · rcases h1 : figsOk xs with _ | _
    · rw [place_b1 h1] at h; cases h; simp
    rcases h2 : spaceOk ss with _ | _
    · rw [place_b2 h2] at h; cases h; simp
    rcases h3 : plF xs ss n with _ | ⟨l, pg, o⟩
    · rw [place_no hn (Nat.le_refl _) h3] at h; cases h; simp
    · rw [place_yes h1 h2 hn h3] at h; cases h
  · obtain ⟨h1, h2, l, pg, h3⟩ := place_true hn h
    have := (pl_inv h1 hn rfl h2 n (Nat.le_refl _) l pg ys h3).2.2.2
    simp only
    omega

set_option maxHeartbeats 4000000 in
theorem law_FigureSpace (A : Option Addr) (n cap : Nat) (cs : List Int) (A2 : Option Addr) (n2 cap2 : Nat) (cs2 : List Int) (w : World) (hc : Code w A n cap cs) (hc2 : Code w A2 n2 cap2 cs2) :
    Calls Try.prog 12 #[.slice A n cap, .slice A2 n2 cap2] w fun e w' => e = .returned (.bool true) ∧ Below w.heap.size w w' := by
  obtain ⟨j0, ji, jz0, jz1, jz2⟩ := info_parts int_info
  have hn := hc.1
  have hn2 := hc2.1
  unfold maxLen at hn hn2
  clear hc2
  by_cases hbig : 1048576 < n
  · go_enter Try.func12, Try.ntmps12
    go_wp2
    go_returns
    exact ⟨rfl, Below.refl _ _⟩
  by_cases hbig2 : 1048576 < n2
  · go_enter Try.func12, Try.ntmps12
    go_wp2
    go_returns
    exact ⟨rfl, Below.refl _ _⟩
  go_enter Try.func12, Try.ntmps12
  go_wp2_with fail
  ((with_reducible refine (DrawPlaceFigures_any _ _ _ cs _ hc).mono ?_); rintro e w1 ⟨g, k, c, b, m, d, xs, ss, rfl, hx, hk, hs, hm, hr1, hs1, hb1⟩)
  have hrr : 0 ≤ (n2 : Int) % 9 ∧ (n2 : Int) % 9 < 9 := ⟨by omega, by omega⟩
  obtain ⟨r, hr⟩ : ∃ r, (n2 : Int) % 9 = r := ⟨_, rfl⟩
  rw [hr] at hrr
  obtain ⟨hr0, hr9⟩ := hrr
  have HRR := Lib.hid hr
  have hwm := fun ys (h : placeV xs ss = (ys, true)) => wide_more (r := r) hx hs hr0 h
  have hpl := placeV_len (ss := ss) hx
  have HX := Lib.hid hx
  have HS := Lib.hid hs
  have HWM := Lib.hid hwm
  have hkx : k ≤ maxLen := by unfold maxLen; omega
  obtain ⟨⟨ys, ok⟩, hy⟩ : ∃ r, placeV xs ss = r := ⟨_, rfl⟩
  obtain ⟨q, hq⟩ : ∃ q, ys.length = q := ⟨_, rfl⟩
  rw [hy] at hpl
  simp only [hq] at hpl
  have hqx : q ≤ maxLen := by unfold maxLen; omega
  have HY := Lib.hid hy
  have HQ := Lib.hid hq
  clear hx hs hr hwm hy hq hc
  go_wp2_with fail
  ((with_reducible refine ((place_i _ _ _ _ _ _ _ xs ss _ HX.out hkx ?_ HS.out (by omega) ?_).mono fun _ _ h => pout_of HY.out HQ.out h).mono ?_); (exact hr1); (exact hs1); rintro e w2 ⟨P2, d2, rfl, o2, hb2⟩)
  have hr2 := hr1.then_ hb2
  have hs2 := hs1.then_ hb2
  have hB2 := below_then (Nat.le_refl _) hb1 hb2
  clear hr1 hs1
  go_wp2_with fail
  ((with_reducible refine ((place_s _ _ _ _ _ _ _ xs ss _ HX.out hkx ?_ HS.out (by omega) ?_).mono fun _ _ h => pout_of HY.out HQ.out h).mono ?_); (exact hr2); (exact hs2); rintro e w3 ⟨P3, d3, rfl, o3, hb3⟩)
  have hr3 := hr2.then_ hb3
  have hs3 := hs2.then_ hb3
  have hB3 := below_then (Nat.le_refl _) hB2 hb3
  have o2' := o2.then_ hb3
  clear hr2 hs2 o2
  go_wp2_with fail
  ((with_reducible refine (equalInts_same _ _ _ _ _ ys _ hqx ?_ ?_).mono ?_); (exact o2'.row); (exact o3.row); rintro e w4 ⟨rfl, hb4⟩)
  have HR4 := Lib.hid (hr3.then_ hb4)
  have HS4 := Lib.hid (hs3.then_ hb4)
  have hB4 := below_then (Nat.le_refl _) hB3 hb4
  have O4 := Lib.hid (o2'.then_ hb4)
  have O5 := Lib.hid (o3.then_ hb4)
  have hz4 := hB4.size
  clear hr3 hs3 o2' o3
  rcases ok with _ | _
  · go_wp2_with fail
    ((with_reducible refine (equalInts_same _ _ _ _ _ ys _ hqx ?_ ?_).mono ?_); (exact O4.out.row); (exact O5.out.row); rintro e w5 ⟨rfl, hb5⟩)
    have hB5 := below_then (Nat.le_refl _) hB4 hb5
    go_wp2_with fail
    go_returns
    exact ⟨rfl, hB5⟩
  obtain ⟨hqk, zs, hz, hzl, hzle⟩ := HWM.out ys HY.out
  rw [HQ.out] at hqk
  subst hqk
  have hsp := (space_iff (place_true HX.out HY.out).2.1)
  have HSP := Lib.hid hsp.2
  have HZ := Lib.hid hz
  have HZL := Lib.hid hzl
  have HZLE := Lib.hid hzle
  have hm12 : m ≤ 12 := by have := hsp.1; have := HS.out; omega
  have HO0 := Lib.hid (own_nil _ w4.heap.size w4.heap.size (Blk.new w4 3 #[]) (Nat.le_refl _))
  have hb40 : Below w4.heap.size w4 (w4.alloc (.cells #[] 3)) := (Below.refl _ _).alloc (Nat.le_refl _) _
  have hWN : (n2 : Int) % 9 = r := HRR.out
  clear hz hzl hzle hsp O5
  go_wp2_with fail
  go_loopg [11, 12] m (fun kk ov iv wr => ∃ (j g2 d2 : Nat), j ≤ m ∧ kk = m - j ∧ iv = .int .i64 j ∧ ov = .slice (some ⟨g2, 0, none⟩) j d2 ∧ Hid (OwnI wr w4.heap.size (some ⟨g2, 0, none⟩) j d2 ((ss.take j).map (wideOf r))) ∧ Below w4.heap.size w4 wr)
  case atStart => exact ⟨0, w4.heap.size, 0, Nat.zero_le _, rfl, by go_num, rfl, HO0.out, hb40⟩
  case round =>
    obtain ⟨j, g2, d4, hj, hk2, rfl, rfl, hown, hbel⟩ := hrel
    have HK := Lib.hid hk2; clear hk2
    obtain ⟨wo, hwo⟩ : ∃ wo : World, wo = wr := ⟨_, rfl⟩
    subst hwo
    have hsz := hbel.size
    have hgb := (hown.out.lt g2 rfl).1
    by_cases hlt : j < m
    · obtain ⟨bb, off, hBB, hbb, hcc⟩ := HS4.out.at1 (by omega)
      have c0 : wo.cell? ⟨bb, off + j, none⟩ = _ := (hbel.cell (p := ⟨bb, off + j, none⟩) hbb).trans (hcc j hlt)
      injection hBB with hBB
      injection hBB with e1 e2
      subst e1 e2
      obtain ⟨x, hx⟩ : ∃ x, ss.getD j default = x := ⟨_, rfl⟩
      simp only [inc, hx, Nat.zero_add] at c0
      obtain ⟨x0, x1⟩ := HSP.out x (mem_of_getD HS.out hlt hx)
      have HW := Lib.hid (wide_snoc (r := r) HS.out hlt hx)
      have hlt' : (j : Int) < (m : Int) := by omega
      clear hx hcc
      by_cases h1 : 10000 < x + 1 + r
      · have hv : wideOf r x = 10000 := if_pos h1
        rw [hv] at HW
        have HO := Lib.hid (OwnI.alloc hown.out (.cells #[.int .i64 10000] 3))
        have HB := Lib.hid (Blk.new wo 3 #[.int .i64 10000])
        have HS3 := Lib.hid (show w4.heap.size ≤ (wo.alloc (.cells #[.int .i64 10000] 3)).heap.size by simp; omega)
        clear hv
        go_wp2_with (at_builtin; (refine wpList_append_one _ rfl _ _ 22 rfl w4.heap.size 3 j0 _ 1 8 Try.underlying22 ji jz0 jz1 jz2 rfl (by omega) (some ⟨g2, 0, none⟩) j d4 (inl ((ss.take j).map (wideOf r))) rfl HO.out wo.heap.size (inl [10000]) rfl rfl HB.out (inl_one _) (by omega) (by omega) HS3.out ?_); intro g' c' w5 hown4 hgr4)
        have HO4 := Lib.hid hown4
        have hb5 : Below w4.heap.size w4 w5 := (hbel.alloc hsz _).grown hgr4 (by simp; omega) (fun k hk => by have := (HO.out.lt k hk).1; omega)
        clear hown4
        go_wp2_with fail
        go_roundg (m - (j + 1))
        case measure => have := HK.out; omega
        case rel =>
          refine ⟨j + 1, g', c', by omega, rfl, by go_num, by go_num, ?_, hb5⟩
          show OwnI _ _ _ _ _ _
          rw [HW.out]
          show World.ownsRow _ _ _ _ _ _ _
          rw [inl_snoc]; exact HO4.out
      · have h1' : x + 1 + r ≤ 10000 := by omega
        have hv : wideOf r x = x + 1 + r := if_neg h1
        rw [hv] at HW
        have HO := Lib.hid (OwnI.alloc hown.out (.cells #[.int .i64 (x + 1 + r)] 3))
        have HB := Lib.hid (Blk.new wo 3 #[.int .i64 (x + 1 + r)])
        have HS3 := Lib.hid (show w4.heap.size ≤ (wo.alloc (.cells #[.int .i64 (x + 1 + r)] 3)).heap.size by simp; omega)
        clear hv
        go_wp2_with (at_builtin; (refine wpList_append_one _ rfl _ _ 22 rfl w4.heap.size 3 j0 _ 1 8 Try.underlying22 ji jz0 jz1 jz2 rfl (by omega) (some ⟨g2, 0, none⟩) j d4 (inl ((ss.take j).map (wideOf r))) rfl HO.out wo.heap.size (inl [x + 1 + r]) rfl rfl HB.out (inl_one _) (by omega) (by omega) HS3.out ?_); intro g' c' w5 hown4 hgr4)
        have HO4 := Lib.hid hown4
        have hb5 : Below w4.heap.size w4 w5 := (hbel.alloc hsz _).grown hgr4 (by simp; omega) (fun k hk => by have := (HO.out.lt k hk).1; omega)
        clear hown4
        go_wp2_with fail
        go_roundg (m - (j + 1))
        case measure => have := HK.out; omega
        case rel =>
          refine ⟨j + 1, g', c', by omega, rfl, by go_num, by go_num, ?_, hb5⟩
          show OwnI _ _ _ _ _ _
          rw [HW.out]
          show World.ownsRow _ _ _ _ _ _ _
          rw [inl_snoc]; exact HO4.out
    · have ejm : j = m := by omega
      have hfull : (ss.take j).map (wideOf r) = ss.map (wideOf r) := by rw [List.take_of_length_le (by rw [HS.out]; omega)]
      have how := hown.out
      rw [hfull] at how
      subst ejm
      have HW := Lib.hid how
      have HWL := Lib.hid (show (ss.map (wideOf r)).length = j by rw [List.length_map, HS.out])
      have hB6 := below_then (Nat.le_refl _) hB4 hbel
      have hz6 := hB6.size
      have HR6 := Lib.hid (HR4.out.then_ hbel)
      have O6 := Lib.hid (O4.out.then_ hbel)
      clear how hfull hWN
      go_wp2_with fail
      ((with_reducible refine ((place_i _ _ _ _ _ _ _ xs (ss.map (wideOf r)) _ HX.out hkx ?_ HWL.out (by omega) ?_).mono fun _ _ h => pout_of HZ.out HZL.out h).mono ?_); (exact HR6.out); (exact HW.out.row); rintro e w7 ⟨P7, d7, rfl, o7, hb7⟩)
      have hB7 := below_then (Nat.le_refl _) hB6 hb7
      have HP1 := Lib.hid o7.row
      have HP2 := Lib.hid (O6.out.then_ hb7).row
      clear o7
      go_wp2_with fail
      go_loopg [15] q (fun kk iv wr => ∃ i : Nat, i ≤ q ∧ kk = q - i ∧ iv = .int .i64 i ∧ Below w7.heap.size w7 wr)
      case atStart => exact ⟨0, Nat.zero_le _, rfl, by go_num, Below.refl _ _⟩
      case round =>
        obtain ⟨i, hi, hk3, rfl, hbl⟩ := hrel
        have HK3 := Lib.hid hk3; clear hk3
        have hszl := hbl.size
        by_cases hiq : i < q
        · obtain ⟨b', off', rfl, hb', hc'⟩ := HP1.out.at1 (by omega)
          have d0 : wr.cell? ⟨b', off' + i, none⟩ = _ := (hbl.cell (p := ⟨b', off' + i, none⟩) hb').trans (hc' i hiq)
          obtain ⟨b2, off2, rfl, hbb2, hcc2⟩ := HP2.out.at1 (by omega)
          have c0 : wr.cell? ⟨b2, off2 + i, none⟩ = _ := (hbl.cell (p := ⟨b2, off2 + i, none⟩) hbb2).trans (hcc2 i hiq)
          obtain ⟨x, hx⟩ : ∃ x, zs.getD i default = x := ⟨_, rfl⟩
          obtain ⟨y, hy⟩ : ∃ y, ys.getD i default = y := ⟨_, rfl⟩
          have hle := HZLE.out i hiq
          rw [hx, hy] at hle
          simp only [inc, hx] at d0
          simp only [inc, hy] at c0
          have hd : decide (y < x) = false := decide_eq_false (by omega)
          have hiq' : (i : Int) < (q : Int) := by omega
          clear hc' hcc2 hx hy
          go_wp2_with fail
          go_quiet (fail)
          go_wp2_with fail
          go_roundg (q - (i + 1))
          case measure => have := HK3.out; omega
          case rel => exact ⟨i + 1, by omega, rfl, by go_num, by (repeat' (first | (with_reducible exact Below.refl _ _) | (with_reducible assumption) | (with_reducible refine Below.alloc ?_ ?_ _) | (with_reducible refine Below.drew ?_) | (with_reducible refine below_drewN ?_ _) | (with_reducible refine Below.setCell ?_ ?_ _) | (with_reducible refine below_then ?_ ?_ (by with_reducible assumption)) | (with_reducible exact Nat.le_refl _) | go_size | (simp only [*]; done)))⟩
        · go_wp2_with fail
          go_returns
          exact ⟨rfl, below_then (Nat.le_refl _) hB7 hbl⟩
end Go.Proofs.Ytlgbeoghjjjlmaa
