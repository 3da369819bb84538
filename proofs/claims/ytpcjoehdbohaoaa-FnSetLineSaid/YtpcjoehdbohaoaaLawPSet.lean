/- The laws on drawn set lines answer true: FnSetBoxes, FnSetLine. Conditions: the code is a slice of bytes. -/
import Derived.Test.YtpcjoehdbohaoaaSomeLine
import Derived.Test.YtpcjoehdbohaoaaSetLaws
import Derived.Test.YtpcjoehdbohaoaaSetLineS
import Derived.Test.YtpcjoehdbohaoaaEq
import Derived.Test.YtpcjoehdbohaoaaLastInt
namespace Go.Proofs.Ytpcjoehdbohaoaa
open Go.RowKit

theorem posP_b {l : List It} {n s j : Nat} {d tS tH : Int} (hok : itemsOk l = true) (hn : l.length = n) (hj : j ≤ n) (h1 : -100000 ≤ d) (h2 : d ≤ 100000) (hS : 0 ≤ tS) (hH : 0 ≤ tH) : ∀ y ∈ posP l d tS tH s j, -20000000000 ≤ y ∧ y ≤ 20000000000 := by
  intro y hy
  simp only [posP, List.mem_map, List.mem_filter, List.mem_range'_1] at hy
  obtain ⟨i, ⟨⟨hi0, hi1⟩, _⟩, rfl⟩ := hy
  obtain ⟨⟨a0, a1⟩, ⟨b0, b1⟩, c0, c1⟩ := sg_b (f := s) (t := i) hok hn (by omega) rfl rfl rfl
  exact mv_b h1 h2 (by omega) (by omega) (by omega) hS hH
theorem setP_b {l : List It} {n a u : Nat} {wd : Int} (hok : itemsOk l = true) (hn : l.length = n) (hu : u < n) (hw : inR wd 1 10000 = true) : ∀ y ∈ setP l a u wd, -20000000000 ≤ y ∧ y ≤ 20000000000 := by
  intro y hy
  obtain ⟨⟨a0, a1⟩, ⟨b0, b1⟩, c0, c1⟩ := lg_b (a := a) hok hn hu
  obtain ⟨w0, w1⟩ := inR_iff.1 hw
  rcases List.mem_append.1 hy with h | h
  · exact posP_b hok hn (by omega) (by omega) (by omega) b0 c0 y h
  · obtain rfl := List.mem_singleton.1 h
    exact mv_b (by omega) (by omega) (by omega) (by omega) (by omega) b0 c0
/-- What a call leaves that draws items and three numbers, out of a code. -/
def LineOut3 (w : World) (e : Ending) (w' : World) : Prop :=
  ∃ (g n c : Nat) (xs : List It) (f t wd : Int), e = .returned (.tuple #[.slice (some ⟨g, 0, none⟩) n c, .int .i64 f, .int .i64 t, .int .i64 wd]) ∧ xs.length = n ∧ n ≤ 23 ∧ (n ≤ c ∧ c ≤ maxLen) ∧ Row w' w'.heap.size 6 (some ⟨g, 0, none⟩) n (itc xs) ∧ Below w.heap.size w w'
set_option maxHeartbeats 1000000 in
theorem DrawFitLine_any (A : Option Addr) (n cap : Nat) (cs : List Int) (w : World) (hc : Code w A n cap cs) :
    Calls Try.prog 53 #[.slice A n cap] w (LineOut3 w) := by
  obtain ⟨h1, h2, h3, h4, h5⟩ := hc
  have HH := Lib.hid h4; clear h4
  go_enter Try.func53, Try.ntmps53
  go_wp2_with fail
  ((with_reducible refine (newReader_any _ _ _ cs _ h1 h2 h3 HH.out h5).mono ?_); rintro e w1 ⟨rfl, hr1, hb1⟩)
  have hs1 := hb1.size
  have hl1 := hr1.lt
  go_wp2_with fail
  ((with_reducible refine (someLine_any _ _ _ hr1 (by omega)).mono ?_); rintro e w2 ⟨g, m, c, xs, p', f, t, rfl, hx, hm, hcp, hrow, hg, hp, hr2, ho2⟩)
  have HX := Lib.hid hx; clear hx
  have hb2 : Below w.heap.size w w2 := hb1.trans (below_of_only ho2 (Nat.le_refl _) hs1)
  have hs2 := hb2.size
  go_wp2_with fail
  ((with_reducible refine (someWidth_any _ _ _ hr2 (by omega)).mono ?_); rintro e w3 ⟨x, p3, rfl, hx0, hx1, hp3, hr3, ho3⟩)
  have hb3 : Below w.heap.size w w3 := hb2.trans (below_of_only ho3 (Nat.le_refl _) hs2)
  have hrow3 := (Row.only hrow ho3 (by intro x hx; cases hx; simp; omega) (Nat.le_refl _)).more ho3.size
  go_wp2_with fail
  (first | go_returns | (refine bodyPost_ret (by simp [results, Try.results53, go_sem, *]; try rfl) rfl ?_))
  exact ⟨g, m, c, xs, f, t, x, rfl, HX.out, hm, hcp, hrow3, hb3⟩
theorem DrawSetLine_any (A : Option Addr) (n cap : Nat) (cs : List Int) (w : World) (hc : Code w A n cap cs) :
    Calls Try.prog 28 #[.slice A n cap] w (LineOut3 w) := by
  go_enter Try.func28, Try.ntmps28
  go_wp2_with fail
  ((with_reducible refine (DrawFitLine_any _ _ _ cs _ hc).mono ?_); rintro e w1 ⟨g, m, c, xs, f, t, wd, rfl, h1, h2, h3, h4, h5⟩)
  go_wp2_with fail
  (first | go_returns | (refine bodyPost_ret (by simp [results, Try.results28, go_sem, *]; try rfl) rfl ?_))
  exact ⟨g, m, c, xs, f, t, wd, rfl, h1, h2, h3, h4, h5⟩

set_option maxRecDepth 100000 in
set_option maxHeartbeats 4000000 in
theorem law_SetBoxes (A : Option Addr) (n cap : Nat) (cs : List Int) (w : World) (hc : Code w A n cap cs) :
    Calls Try.prog 7 #[.slice A n cap] w fun e w' => e = .returned (.bool true) ∧ Below w.heap.size w w' := by
  have hn := hc.1
  unfold maxLen at hn
  by_cases hbig : 1048576 < n
  · go_enter Try.func7, Try.ntmps7
    go_wp2
    go_returns
    exact ⟨rfl, Below.refl _ _⟩
  go_enter Try.func7, Try.ntmps7
  go_wp2_with fail
  ((with_reducible refine (DrawSetLine_any _ _ _ cs _ hc).mono ?_); rintro e w1 ⟨g, m, c, xs, f, t, wd, rfl, hx, hm, hcp, hr1, hb1⟩)
  have HX := Lib.hid hx; clear hx
  have hmx : m ≤ maxLen := by unfold maxLen; omega
  have hz1 := hb1.size
  obtain ⟨P, hP⟩ : ∃ P, setV xs f t wd = P := ⟨_, rfl⟩
  obtain ⟨q, hq⟩ : ∃ q, P.length = q := ⟨_, rfl⟩
  have hqb : q ≤ 61 := by
    rcases hv : lineV xs f t with _ | _
    · rw [sv_no (by rw [hv]; rfl)] at hP; subst hP; simp at hq; omega
    rcases hw : inR wd 1 10000 with _ | _
    · rw [sv_no (by rw [hw, Bool.and_false])] at hP; subst hP; simp at hq; omega
    · have hv' := hv
      simp only [lineV, Bool.and_eq_true] at hv'
      obtain ⟨a, u, hf, rfl, _, hu, _⟩ := ln_iff rfl hv'.2
      rw [sv_yes hv hw hf] at hP
      have h1 := setP_len xs a u wd
      have h2 := (itemsOk_len hv'.1 rfl).2
      rw [hP] at h1
      omega
  have hqm : q ≤ maxLen := by unfold maxLen; omega
  have HP := Lib.hid hP
  have HQ := Lib.hid hq
  have HCP := Lib.hid hcp
  clear hP hq hcp
  go_wp2_with fail
  ((with_reducible refine (setLine_i _ _ _ f t wd xs _ HX.out hmx HCP.out ?_).mono ?_); (exact hr1); rintro e w2 ⟨B, d, rfl, hob, hb2⟩)
  rw [HP.out, HQ.out] at hob ⊢
  have hr2 := hr1.then_ hb2
  have hB2 := below_then (Nat.le_refl _) hb1 hb2
  go_wp2_with fail
  ((with_reducible refine (setLine_s _ _ _ f t wd xs _ HX.out hmx ?_).mono ?_); (exact hr2); rintro e w3 ⟨B3, d3, rfl, hob3, hb3⟩)
  rw [HP.out, HQ.out] at hob3 ⊢
  have hr3 := hr2.then_ hb3
  have hB3 := below_then (Nat.le_refl _) hB2 hb3
  have hoI3 : OwnI w3 w1.heap.size B q d P := OwnI.then_ hob hb3
  clear hr1 hr2 hob
  go_wp2_with fail
  ((with_reducible refine (equalInts_same _ _ _ _ _ P _ hqm ?_ ?_).mono ?_); (exact hoI3.row); (exact hob3.row); rintro e w4 ⟨rfl, hb4⟩)
  have hB4 := below_then (Nat.le_refl _) hB3 hb4
  have hr4 := hr3.then_ hb4
  have hoI4 : OwnI w4 w1.heap.size B q d P := OwnI.then_ hoI3 hb4
  clear hr3 hoI3 hob3
  by_cases hq0 : q = 0
  · have hq0' : ((q : Int) == 0) = true := by simp [hq0]
    subst hq0
    go_wp2_with fail
    ((with_reducible refine (setLine_s _ _ _ f t wd xs _ HX.out hmx ?_).mono ?_); (exact hr4); rintro e w5 ⟨B5, d5, rfl, hob5, hb5⟩)
    rw [HP.out, HQ.out] at hob5 ⊢
    have hB5 := below_then (Nat.le_refl _) hB4 hb5
    have hoI5 := OwnI.then_ hoI4 hb5
    go_wp2_with fail
    ((with_reducible refine (equalInts_same _ _ _ _ _ P _ hqm ?_ ?_).mono ?_); (exact hoI5.row); (exact hob5.row); rintro e w6 ⟨rfl, hb6⟩)
    go_wp2_with fail
    go_returns
    exact ⟨rfl, below_then (Nat.le_refl _) hB5 hb6⟩
  have hq0' : ((q : Int) == 0) = false := by simp; omega
  have hv : lineV xs f t = true := by
    rcases hv : lineV xs f t with _ | _
    · have := HP.out
      rw [sv_no (by rw [hv]; rfl)] at this
      have h2 := HQ.out
      rw [← this] at h2
      simp at h2
      omega
    · rfl
  have hw : inR wd 1 10000 = true := by
    rcases hw : inR wd 1 10000 with _ | _
    · have := HP.out
      rw [sv_no (by rw [hw, Bool.and_false])] at this
      have h2 := HQ.out
      rw [← this] at h2
      simp at h2
      omega
    · rfl
  have hv' := hv
  simp only [lineV, Bool.and_eq_true] at hv'
  obtain ⟨hok, hl⟩ := hv'
  obtain ⟨a, u, hf, rfl, hau, hum, _⟩ := ln_iff HX.out hl
  obtain ⟨ys, hys⟩ : ∃ ys, boxesV xs f (u : Int) = ys := ⟨_, rfl⟩
  have hyp : boxesP xs a u = ys := by rw [← bv_yes hv hf]; exact hys
  have hpp : setP xs a u wd = P := by rw [← sv_yes hv hw hf]; exact HP.out
  have hch := setP_chain hok HX.out hum hau wd
  have hpb := setP_b (a := a) hok HX.out hum hw
  rw [hpp, hyp] at hch
  rw [hpp] at hpb
  have hyl : ys.length + 1 = q := by rw [← hch.1]; exact HQ.out
  obtain ⟨r, hr⟩ : ∃ r, ys.length = r := ⟨_, rfl⟩
  have hrq : r + 1 = q := by omega
  have hf1 : Hid (f = (a : Int) - 1) := hf
  have HY := Lib.hid hys
  have HR := Lib.hid hr
  have HYP := Lib.hid hyp
  have HPP := Lib.hid hpp
  have HCH := Lib.hid hch
  have HPB := Lib.hid hpb
  have HOK := Lib.hid hok
  have HW := Lib.hid hw
  have HV := Lib.hid hv
  have hr0 := Lib.hid hr4
  have HOW := Lib.hid hoI4
  subst hrq
  clear hys hr hyp hpp hch hpb hok hw hv hl hf hyl hr4 hoI4 hq0
  have hrm : r ≤ maxLen := by omega
  go_wp2_with fail
  ((with_reducible refine (boxes_i _ _ _ f (u : Int) xs _ HX.out hmx HCP.out ?_).mono ?_); (exact hr0.out); rintro e w5 ⟨B5, d5, rfl, hob5, hb5⟩)
  rw [HY.out, HR.out] at hob5 ⊢
  have HOB := Lib.hid hob5
  have hB5 := below_then (Nat.le_refl _) hB4 hb5
  have hr5 := Lib.hid (hr0.out.then_ hb5)
  have hP5 := Lib.hid (OwnI.row (OwnI.then_ HOW.out hb5))
  clear hob5
  go_wp2_with fail
  go_loopg [9] r (fun k i wr => ∃ j : Nat, j ≤ r ∧ k = r - j ∧ i = .int .i64 (j : Int) ∧ Below w5.heap.size w5 wr)
  case atStart => exact ⟨0, Nat.zero_le _, rfl, rfl, Below.refl _ _⟩
  case round =>
    obtain ⟨j, hj, hk, rfl, hbel⟩ := hrel
    have HK := Lib.hid hk; clear hk
    have hsz := hbel.size
    by_cases hlt : j < r
    · obtain ⟨bB, oB, rfl, hbB, hcB⟩ := HOB.out.row.at1 (by omega)
      have e0 : wr.cell? ⟨bB, oB + j, none⟩ = _ := (hbel.cell (p := ⟨bB, oB + j, none⟩) hbB).trans (hcB j hlt)
      obtain ⟨y, hy⟩ : ∃ y, ys.getD j default = y := ⟨_, rfl⟩
      have hmem : y ∈ boxesP xs a u := by rw [HYP.out]; exact mem_of_getD HR.out hlt hy
      obtain ⟨i, rfl, hi0, hi1, hik⟩ := boxesP_mem hmem
      simp only [inc, hy] at e0
      obtain ⟨bP, oP, rfl, hbP, hcP⟩ := hP5.out.at1 (by omega)
      have d0 : wr.cell? ⟨bP, oP + j, none⟩ = _ := (hbel.cell (p := ⟨bP, oP + j, none⟩) hbP).trans (hcP j (by omega))
      have d1 : wr.cell? ⟨bP, oP + (j + 1), none⟩ = _ := (hbel.cell (p := ⟨bP, oP + (j + 1), none⟩) hbP).trans (hcP (j + 1) (by omega))
      have d1' : wr.cell? ⟨bP, oP + j + 1, none⟩ = _ := d1
      obtain ⟨b, off, hbo, hb, hc'⟩ := hr5.out (by omega)
      have c1 : wr.cell? ⟨b, off + i * 6 + 1, none⟩ = _ := (hbel.cell (p := ⟨b, off + i * 6 + 1, none⟩) hb).trans (hc' i 1 (by omega) (by omega))
      injection hbo with hbo
      injection hbo with q1 q2
      subst q1 q2
      obtain ⟨x, hx⟩ : ∃ x, xs.getD i default = x := ⟨_, rfl⟩
      simp only [itc, itv, hx, Nat.zero_add] at c1
      obtain ⟨⟨x0, x1⟩, _⟩ := itemOk_b (itemsOk_at HOK.out HX.out (by omega) hx)
      obtain ⟨pa, hpa⟩ : ∃ pa, P.getD j default = pa := ⟨_, rfl⟩
      obtain ⟨pb, hpb⟩ : ∃ pb, P.getD (j + 1) default = pb := ⟨_, rfl⟩
      simp only [inc, hpa, hpb] at d0 d1 d1'
      have hle := HCH.out.2 j (by rw [HR.out]; exact hlt)
      rw [hpa, hpb, hy, show ((i : Int)).toNat = i by omega, hx] at hle
      obtain ⟨m0, m1⟩ := HPB.out pa (mem_of_getD HQ.out (by omega) hpa)
      have w1' : IntKind.i64.wrap (pa + x.w) = pa + x.w := IntWalk.i64_in _ (by omega)
      have w2' : IntKind.i64.wrap ((j : Int) + 1) = (j : Int) + 1 := IntWalk.i64_in _ (by omega)
      have w3' : ((j : Int) + 1).toNat = j + 1 := by omega
      have hjr : (j : Int) < (r : Int) := by omega
      have hjr1 : (j : Int) + 1 < (r : Int) + 1 := by omega
      have hjr2 : (j : Int) < (r : Int) + 1 := by omega
      have him : (i : Int) < (m : Int) := by omega
      have hnl : ¬ pb < pa + x.w := by omega
      have hnl' : decide (pb < pa + x.w) = false := by simp; omega
      clear hx hc' hcB hy hmem hik hcP hpa hpb
      go_wp2_with fail
      go_quiet (fail)
      go_wp2_with fail
      go_roundg (r - (j + 1))
      case measure => have := HK.out; omega
      case rel => exact ⟨j + 1, by omega, rfl, by go_num, by (repeat' (first | (with_reducible exact Below.refl _ _) | (with_reducible assumption) | (with_reducible refine Below.alloc ?_ ?_ _) | (with_reducible refine Below.drew ?_) | (with_reducible refine below_drewN ?_ _) | (with_reducible refine Below.setCell ?_ ?_ _) | (with_reducible refine below_then ?_ ?_ (by with_reducible assumption)) | (with_reducible exact Nat.le_refl _) | go_size | (simp only [*]; done)))⟩
    · go_wp2_with fail
      go_returns
      exact ⟨rfl, below_then (Nat.le_refl _) hB5 hbel⟩

set_option maxRecDepth 100000 in
set_option maxHeartbeats 4000000 in
theorem law_SetLine (A : Option Addr) (n cap : Nat) (cs : List Int) (w : World) (hc : Code w A n cap cs) :
    Calls Try.prog 8 #[.slice A n cap] w fun e w' => e = .returned (.bool true) ∧ Below w.heap.size w w' := by
  have hn := hc.1
  unfold maxLen at hn
  by_cases hbig : 1048576 < n
  · go_enter Try.func8, Try.ntmps8
    go_wp2
    go_returns
    exact ⟨rfl, Below.refl _ _⟩
  go_enter Try.func8, Try.ntmps8
  go_wp2_with fail
  ((with_reducible refine (DrawSetLine_any _ _ _ cs _ hc).mono ?_); rintro e w1 ⟨g, m, c, xs, f, t, wd, rfl, hx, hm, hcp, hr1, hb1⟩)
  have HX := Lib.hid hx; clear hx
  have hmx : m ≤ maxLen := by unfold maxLen; omega
  have hz1 := hb1.size
  obtain ⟨P, hP⟩ : ∃ P, setV xs f t wd = P := ⟨_, rfl⟩
  obtain ⟨q, hq⟩ : ∃ q, P.length = q := ⟨_, rfl⟩
  have hqb : q ≤ 61 := by
    rcases hv : lineV xs f t with _ | _
    · rw [sv_no (by rw [hv]; rfl)] at hP; subst hP; simp at hq; omega
    rcases hw : inR wd 1 10000 with _ | _
    · rw [sv_no (by rw [hw, Bool.and_false])] at hP; subst hP; simp at hq; omega
    · have hv' := hv
      simp only [lineV, Bool.and_eq_true] at hv'
      obtain ⟨a, u, hf, rfl, _, hu, _⟩ := ln_iff rfl hv'.2
      rw [sv_yes hv hw hf] at hP
      have h1 := setP_len xs a u wd
      have h2 := (itemsOk_len hv'.1 rfl).2
      rw [hP] at h1
      omega
  have hqm : q ≤ maxLen := by unfold maxLen; omega
  have HP := Lib.hid hP
  have HQ := Lib.hid hq
  have HCP := Lib.hid hcp
  clear hP hq hcp
  go_wp2_with fail
  ((with_reducible refine (setLine_i _ _ _ f t wd xs _ HX.out hmx HCP.out ?_).mono ?_); (exact hr1); rintro e w2 ⟨B, d, rfl, hob, hb2⟩)
  rw [HP.out, HQ.out] at hob ⊢
  have hr2 := hr1.then_ hb2
  have hB2 := below_then (Nat.le_refl _) hb1 hb2
  go_wp2_with fail
  ((with_reducible refine (setLine_s _ _ _ f t wd xs _ HX.out hmx ?_).mono ?_); (exact hr2); rintro e w3 ⟨B3, d3, rfl, hob3, hb3⟩)
  rw [HP.out, HQ.out] at hob3 ⊢
  have hr3 := hr2.then_ hb3
  have hB3 := below_then (Nat.le_refl _) hB2 hb3
  have hoI3 : OwnI w3 w1.heap.size B q d P := OwnI.then_ hob hb3
  clear hr1 hr2 hob
  go_wp2_with fail
  ((with_reducible refine (equalInts_same _ _ _ _ _ P _ hqm ?_ ?_).mono ?_); (exact hoI3.row); (exact hob3.row); rintro e w4 ⟨rfl, hb4⟩)
  have hB4 := below_then (Nat.le_refl _) hB3 hb4
  have hr4 := hr3.then_ hb4
  have hoI4 : OwnI w4 w1.heap.size B q d P := OwnI.then_ hoI3 hb4
  clear hr3 hoI3 hob3
  by_cases hq0 : q = 0
  · have hq0' : ((q : Int) == 0) = true := by simp [hq0]
    subst hq0
    go_wp2_with fail
    ((with_reducible refine (setLine_s _ _ _ f t wd xs _ HX.out hmx ?_).mono ?_); (exact hr4); rintro e w5 ⟨B5, d5, rfl, hob5, hb5⟩)
    rw [HP.out, HQ.out] at hob5 ⊢
    have hB5 := below_then (Nat.le_refl _) hB4 hb5
    have hoI5 := OwnI.then_ hoI4 hb5
    go_wp2_with fail
    ((with_reducible refine (equalInts_same _ _ _ _ _ P _ hqm ?_ ?_).mono ?_); (exact hoI5.row); (exact hob5.row); rintro e w6 ⟨rfl, hb6⟩)
    go_wp2_with fail
    go_returns
    exact ⟨rfl, below_then (Nat.le_refl _) hB5 hb6⟩
  have hq0' : ((q : Int) == 0) = false := by simp; omega
  have hv : lineV xs f t = true := by
    rcases hv : lineV xs f t with _ | _
    · have := HP.out
      rw [sv_no (by rw [hv]; rfl)] at this
      have h2 := HQ.out
      rw [← this] at h2
      simp at h2
      omega
    · rfl
  have hw : inR wd 1 10000 = true := by
    rcases hw : inR wd 1 10000 with _ | _
    · have := HP.out
      rw [sv_no (by rw [hw, Bool.and_false])] at this
      have h2 := HQ.out
      rw [← this] at h2
      simp at h2
      omega
    · rfl
  have hv' := hv
  simp only [lineV, Bool.and_eq_true] at hv'
  obtain ⟨hok, hl⟩ := hv'
  obtain ⟨a, u, hf, rfl, hau, hum, _⟩ := ln_iff HX.out hl
  obtain ⟨ys, hys⟩ : ∃ ys, boxesV xs f (u : Int) = ys := ⟨_, rfl⟩
  have hyp : boxesP xs a u = ys := by rw [← bv_yes hv hf]; exact hys
  have hpp : setP xs a u wd = P := by rw [← sv_yes hv hw hf]; exact HP.out
  have hch := setP_chain hok HX.out hum hau wd
  have hpb := setP_b (a := a) hok HX.out hum hw
  rw [hpp, hyp] at hch
  rw [hpp] at hpb
  have hyl : ys.length + 1 = q := by rw [← hch.1]; exact HQ.out
  obtain ⟨r, hr⟩ : ∃ r, ys.length = r := ⟨_, rfl⟩
  have hrq : r + 1 = q := by omega
  have hf1 : Hid (f = (a : Int) - 1) := hf
  have HY := Lib.hid hys
  have HR := Lib.hid hr
  have HYP := Lib.hid hyp
  have HPP := Lib.hid hpp
  have HCH := Lib.hid hch
  have HPB := Lib.hid hpb
  have HOK := Lib.hid hok
  have HW := Lib.hid hw
  have HV := Lib.hid hv
  have hr0 := Lib.hid hr4
  have HOW := Lib.hid hoI4
  subst hrq
  clear hys hr hyp hpp hch hpb hok hw hv hl hf hyl hr4 hoI4 hq0
  obtain ⟨gW, hgW⟩ : ∃ gW, gv xs f (u : Int) lgW = gW := ⟨_, rfl⟩
  obtain ⟨gS, hgS⟩ : ∃ gS, gv xs f (u : Int) lgS = gS := ⟨_, rfl⟩
  obtain ⟨gH, hgH⟩ : ∃ gH, gv xs f (u : Int) lgH = gH := ⟨_, rfl⟩
  have HGW := Lib.hid hgW
  have HGS := Lib.hid hgS
  have HGH := Lib.hid hgH
  have hlb := lg_b (a := a) HOK.out HX.out hum
  rw [← gv_yes HV.out hf1.out lgW, ← gv_yes HV.out hf1.out lgS, ← gv_yes HV.out hf1.out lgH, hgW, hgS, hgH] at hlb
  obtain ⟨⟨W0, W1⟩, ⟨S0, S1⟩, H0, H1⟩ := hlb
  have hlast : gW = wd ∨ (gW < wd ∧ 0 < gS) ∨ (gW > wd ∧ gW - wd ≤ gH) → lastOf P = wd := fun h => by
    have hp := HPP.out
    rw [setP, ← gv_yes HV.out hf1.out lgW, ← gv_yes HV.out hf1.out lgS, ← gv_yes HV.out hf1.out lgH, hgW, hgS, hgH, mv_exact S0 H0 h] at hp
    rw [lastOf, if_neg (by rw [HQ.out]; omega), ← hp, getD_app2 _ _ (by simp)]
  have HLAST := Lib.hid hlast
  obtain ⟨wd0, wd1⟩ := inR_iff.1 HW.out
  have hmono : ∀ i, i + 1 < r + 1 → P.getD i default ≤ P.getD (i + 1) default := fun i hi => chain_inc HCH.out (fun i hi => by
    have hmem : ys.getD i default ∈ boxesP xs a u := by rw [HYP.out]; exact mem_of_getD HR.out (by rw [HR.out] at hi; exact hi) rfl
    obtain ⟨k, hk, hk0, hk1, _⟩ := boxesP_mem hmem
    rw [hk, show ((k : Int)).toNat = k by omega]
    exact (itemOk_b (itemsOk_at HOK.out HX.out (by omega) rfl)).1.1) (by rw [HQ.out]; exact hi)
  have HMONO := Lib.hid hmono
  clear hgW hgS hgH hlast hmono
  go_wp2_with fail
  ((with_reducible refine (glue_i _ _ _ f (u : Int) xs _ HX.out hmx HCP.out ?_).mono ?_); (exact hr0.out); rintro e w5 ⟨rfl, hb5⟩)
  rw [HGW.out, HGS.out, HGH.out, HV.out]
  have hB5 := below_then (Nat.le_refl _) hB4 hb5
  have hB5a := hB5.alloc hB5.size (.cells #[.int .i64 gW, .int .i64 gS, .int .i64 gH] 37)
  have hr5 := Lib.hid ((hr0.out.then_ hb5).alloc' (.cells #[.int .i64 gW, .int .i64 gS, .int .i64 gH] 37))
  have hP5 := Lib.hid (OwnI.row ((OwnI.then_ HOW.out hb5).alloc (.cells #[.int .i64 gW, .int .i64 gS, .int .i64 gH] 37)))
  have K5 := Lib.hid (Blk.new w5 37 #[.int .i64 gW, .int .i64 gS, .int .i64 gH])
  obtain ⟨w6, hw6⟩ : ∃ w6, (w5.alloc (.cells #[.int .i64 gW, .int .i64 gS, .int .i64 gH] 37)) = w6 := ⟨_, rfl⟩
  rw [hw6] at hB5a hr5 hP5 K5
  go_wp2_with fail
  have h56 : w5.heap.size < w6.heap.size := by rw [← hw6]; simp
  clear hw6
  go_loopg [10] (r + 1 - 1) (fun k i wr => ∃ j : Nat, 1 ≤ j ∧ j ≤ r + 1 ∧ k = r + 1 - j ∧ i = .int .i64 (j : Int) ∧ Below w6.heap.size w6 wr)
  case atStart => exact ⟨1, Nat.le_refl _, by omega, rfl, rfl, Below.refl _ _⟩
  case round =>
    obtain ⟨j, hj0, hj, hk, rfl, hbel⟩ := hrel
    have HK := Lib.hid hk; clear hk
    have hsz := hbel.size
    by_cases hlt : j < r + 1
    · obtain ⟨i, rfl⟩ : ∃ i, j = i + 1 := ⟨j - 1, by omega⟩
      obtain ⟨bP, oP, rfl, hbP, hcP⟩ := hP5.out.at1 (by omega)
      have d0 : wr.cell? ⟨bP, oP + i, none⟩ = _ := (hbel.cell (p := ⟨bP, oP + i, none⟩) hbP).trans (hcP i (by omega))
      have d1 : wr.cell? ⟨bP, oP + (i + 1), none⟩ = _ := (hbel.cell (p := ⟨bP, oP + (i + 1), none⟩) hbP).trans (hcP (i + 1) (by omega))
      have d1' : wr.cell? ⟨bP, oP + i + 1, none⟩ = _ := d1
      obtain ⟨pa, hpa⟩ : ∃ pa, P.getD i default = pa := ⟨_, rfl⟩
      obtain ⟨pb, hpb⟩ : ∃ pb, P.getD (i + 1) default = pb := ⟨_, rfl⟩
      simp only [inc, hpa, hpb] at d0 d1 d1'
      have hle := HMONO.out i hlt
      rw [hpa, hpb] at hle
      have e1 : ((i + 1 : Nat) : Int) = (i : Int) + 1 := by omega
      have w1' : IntKind.i64.wrap ((i : Int) + 1 - 1) = (i : Int) := by rw [show (i : Int) + 1 - 1 = (i : Int) by omega]; exact IntWalk.i64_in _ (by omega)
      have w3' : ((i : Int) + 1).toNat = i + 1 := by omega
      have hjr : (i : Int) + 1 < (r : Int) + 1 := by omega
      have hjr2 : (i : Int) < (r : Int) + 1 := by omega
      have hnl : ¬ pb < pa := by omega
      have hnl' : decide (pb < pa) = false := by simp; omega
      rw [e1]
      clear hcP hpa hpb e1
      go_wp2_with fail
      go_quiet (fail)
      go_wp2_with fail
      go_roundg (r + 1 - (i + 1 + 1))
      case measure => have := HK.out; omega
      case rel => exact ⟨i + 1 + 1, by omega, by omega, rfl, by go_num, by (repeat' (first | (with_reducible exact Below.refl _ _) | (with_reducible assumption) | (with_reducible refine Below.alloc ?_ ?_ _) | (with_reducible refine Below.drew ?_) | (with_reducible refine below_drewN ?_ _) | (with_reducible refine Below.setCell ?_ ?_ _) | (with_reducible refine below_then ?_ ?_ (by with_reducible assumption)) | (with_reducible exact Nat.le_refl _) | go_size | (simp only [*]; done)))⟩
    · have ej : j = r + 1 := by omega
      have k5 := K5.out.then_ hbel
      have ylt := k5.lt
      have yc0 := k5.cell 0; have yf0 := k5.frozen 0
      have yc1 := k5.cell 1; have yf1 := k5.frozen 1
      have yc2 := k5.cell 2; have yf2 := k5.frozen 2
      simp only [List.getElem?_toArray, List.getElem?_cons_zero, List.getElem?_cons_succ] at yc0 yc1 yc2
      have hr6 := Lib.hid (hr5.out.then_ hbel)
      have hP6 := Lib.hid (hP5.out.then_ hbel)
      have hB6 := below_then (Nat.le_refl _) hB5a hbel
      clear k5
      by_cases t1 : gW = wd
      · have HL := Lib.hid (HLAST.out (.inl t1))
        have t1' : (gW == wd) = true := by simp [t1]
        clear t1
        go_wp2_with fail
        ((with_reducible refine (boxes_i _ _ _ f (u : Int) xs _ HX.out hmx HCP.out ?_).mono ?_); (exact hr6.out); rintro e w7 ⟨B7, d7, rfl, hob7, hb7⟩)
        rw [HY.out, HR.out]
        clear hob7
        go_wp2_with fail
        ((with_reducible refine (last_any _ _ _ P _ HQ.out hqm ?_).mono ?_); (exact hP6.out.then_ hb7); rintro e w8 ⟨rfl, hb8⟩)
        rw [HL.out]
        go_wp2_with fail
        go_returns
        exact ⟨rfl, below_then (Nat.le_refl _) (below_then (Nat.le_refl _) hB6 hb7) hb8⟩
      have t1' : (gW == wd) = false := by simp [t1]
      by_cases t2 : gW < wd
      · have t2' : ¬ wd < gW := by omega
        by_cases t3 : 0 < gS
        · have HL := Lib.hid (HLAST.out (.inr (.inl ⟨t2, t3⟩)))
          clear t1
          go_wp2_with fail
          ((with_reducible refine (boxes_i _ _ _ f (u : Int) xs _ HX.out hmx HCP.out ?_).mono ?_); (exact hr6.out); rintro e w7 ⟨B7, d7, rfl, hob7, hb7⟩)
          rw [HY.out, HR.out]
          clear hob7
          go_wp2_with fail
          ((with_reducible refine (last_any _ _ _ P _ HQ.out hqm ?_).mono ?_); (exact hP6.out.then_ hb7); rintro e w8 ⟨rfl, hb8⟩)
          rw [HL.out]
          go_wp2_with fail
          go_returns
          exact ⟨rfl, below_then (Nat.le_refl _) (below_then (Nat.le_refl _) hB6 hb7) hb8⟩
        · clear t1
          go_wp2_with fail
          ((with_reducible refine (boxes_i _ _ _ f (u : Int) xs _ HX.out hmx HCP.out ?_).mono ?_); (exact hr6.out); rintro e w7 ⟨B7, d7, rfl, hob7, hb7⟩)
          rw [HY.out, HR.out]
          clear hob7
          go_wp2_with fail
          go_returns
          exact ⟨rfl, below_then (Nat.le_refl _) hB6 hb7⟩
      · have t4 : wd < gW := by omega
        by_cases t5 : gW - wd ≤ gH
        · have HL := Lib.hid (HLAST.out (.inr (.inr ⟨t4, t5⟩)))
          clear t1
          go_wp2_with fail
          ((with_reducible refine (boxes_i _ _ _ f (u : Int) xs _ HX.out hmx HCP.out ?_).mono ?_); (exact hr6.out); rintro e w7 ⟨B7, d7, rfl, hob7, hb7⟩)
          rw [HY.out, HR.out]
          clear hob7
          go_wp2_with fail
          ((with_reducible refine (last_any _ _ _ P _ HQ.out hqm ?_).mono ?_); (exact hP6.out.then_ hb7); rintro e w8 ⟨rfl, hb8⟩)
          rw [HL.out]
          go_wp2_with fail
          go_returns
          exact ⟨rfl, below_then (Nat.le_refl _) (below_then (Nat.le_refl _) hB6 hb7) hb8⟩
        · clear t1
          go_wp2_with fail
          ((with_reducible refine (boxes_i _ _ _ f (u : Int) xs _ HX.out hmx HCP.out ?_).mono ?_); (exact hr6.out); rintro e w7 ⟨B7, d7, rfl, hob7, hb7⟩)
          rw [HY.out, HR.out]
          clear hob7
          go_wp2_with fail
          go_returns
          exact ⟨rfl, below_then (Nat.le_refl _) hB6 hb7⟩
end Go.Proofs.Ytpcjoehdbohaoaa
