/- FillPages, of the program and of the reference, returns what the plain function says. Conditions: the slice reads as the list. -/
import Derived.Test.YticdgpgbpgjnbaaPageCost
namespace Go.Proofs.Yticdgpgbpgjnbaa
open Go.RowKit

/-- What a call leaves that returns numbers of its own and a bool. -/
def IntsBool (w : World) (xs : List Int) (b : Bool) (e : Ending) (w' : World) : Prop :=
  ∃ (A : Option Addr) (c : Nat), e = .returned (.tuple #[.slice A xs.length c, .bool b]) ∧ OwnI w' w.heap.size A xs.length c xs ∧ Below w.heap.size w w'
theorem ownI_none (w : World) (base : Nat) : OwnI w base none 0 0 [] := ⟨rfl, .inl ⟨rfl, rfl⟩⟩

/-- The ends of the pages that are filled from line k on; those before are 'out', the page at hand begins at f. -/
def fillR (xs : List Ln) (h : Int) : Nat → Nat → List Int → Nat → Option (List Int)
  | 0, _, out, _ => some out
  | d + 1, k, out, f => if h < pageH (seg xs k (k + 1)) then none else if h < pageH (seg xs f (k + 1)) then fillR xs h d (k + 1) (out ++ [(k : Int)]) k else fillR xs h d (k + 1) out f
def fillV (xs : List Ln) (h : Int) : List Int × Bool := if pagingOk xs h then (match fillR xs h xs.length 0 [] 0 with | none => ([], false) | some out => (out ++ [(xs.length : Int)], true)) else ([], false)
theorem fill_bad {xs : List Ln} {h : Int} (hv : pagingOk xs h = false) : fillV xs h = ([], false) := by simp [fillV, hv]
theorem fill_no {xs : List Ln} {h : Int} {n : Nat} (hn : xs.length = n) (hc : fillR xs h n 0 [] 0 = none) : fillV xs h = ([], false) := by
  unfold fillV
  split
  · rw [hn, hc]
  · rfl
theorem fill_yes {xs : List Ln} {h : Int} {n : Nat} {out : List Int} (hn : xs.length = n) (hv : pagingOk xs h = true) (hc : fillR xs h n 0 [] 0 = some out) : fillV xs h = (out ++ [(n : Int)], true) := by
  unfold fillV
  rw [if_pos hv, hn, hc]
theorem fillR_step {xs : List Ln} {h : Int} {n k f : Nat} {out : List Int} (hk : k < n) : fillR xs h (n - k) k out f = if h < pageH (seg xs k (k + 1)) then none else if h < pageH (seg xs f (k + 1)) then fillR xs h (n - (k + 1)) (k + 1) (out ++ [(k : Int)]) k else fillR xs h (n - (k + 1)) (k + 1) out f := by
  rw [show n - k = (n - (k + 1)) + 1 by omega]
  rfl
theorem fillR_new {xs : List Ln} {h : Int} {n k f : Nat} {out : List Int} (hk : k < n) (hf : h < pageH (seg xs f (k + 1))) : fillR xs h (n - k) k out f = fillR xs h (n - k) k (out ++ [(k : Int)]) k := by
  rw [fillR_step hk, fillR_step hk]
  by_cases h1 : h < pageH (seg xs k (k + 1))
  · rw [if_pos h1, if_pos h1]
  · rw [if_neg h1, if_neg h1, if_pos hf, if_neg h1]
/-- A page that begins later is not higher. -/
theorem pageH_less {xs : List Ln} {n f k : Nat} (h : linesOk xs = true) (hn : xs.length = n) (hf : f ≤ k) (hk : k < n) : pageH (seg xs k (k + 1)) ≤ pageH (seg xs f (k + 1)) := by
  obtain ⟨h1, h2, h3, h4, h5⟩ := seg_bound h hn hf (show k ≤ n by omega) rfl rfl
  obtain ⟨⟨g1, g2⟩, ⟨g3, g4⟩, _⟩ := linesOk_at h hn hk rfl
  have e1 : seg xs k (k + 1) = [xs.getD k default] := by rw [seg_snoc hn hk (Nat.le_refl _) rfl, seg_nil]; rfl
  rw [e1, seg_snoc hn hk hf rfl]
  have e2 : aSum [xs.getD k default] = (xs.getD k default).a := by simp [aSum]
  have e3 : bSum [xs.getD k default] = (xs.getD k default).b := by simp [bSum]
  unfold pageH
  rw [aSum_snoc, bSum_snoc, e2, e3]
  unfold rule
  split <;> split <;> omega

theorem rowSeg1 {w : World} {B b off n : Nat} {xs : List Ln} (hn : xs.length = n) (h : Row w B 3 (some ⟨b, off, none⟩) n (lnc xs)) (k : Nat) (hk : k < n) : Row w B 3 (some ⟨b, off + k * 3, none⟩) 1 (lnc (seg xs k (k + 1))) := by
  have := h.seg hn k (k + 1) (by omega)
  rwa [show k + 1 - k = 1 by omega] at this

set_option maxHeartbeats 4000000 in
theorem fill_i (A : Option Addr) (n cap : Nat) (h : Int) (xs : List Ln) (w : World) (hn : xs.length = n) (hm : n ≤ maxLen) (hcap : n ≤ cap ∧ cap ≤ maxLen) (hr : Row w w.heap.size 3 A n (lnc xs)) :
    Calls Try.prog 24 #[.slice A n cap, .int .i64 h] w (IntsBool w (fillV xs h).1 (fillV xs h).2) := by
  rcases hv : pagingOk xs h with _ | _
  · have e := fill_bad hv
    rw [e]
    clear e
    go_enter Try.func24, Try.ntmps24
    go_wp2_with fail
    ((with_reducible refine (validPaging_i _ _ _ _ xs _ hn hm ?_).mono ?_); (exact hr); rintro e w1 ⟨rfl, hb⟩)
    rw [hv]
    go_wp2
    go_ret2
    exact ⟨none, 0, rfl, ownI_none _ _, hb⟩
  obtain ⟨hok, h1, h2⟩ := paging_iff hv
  have hl := linesOk_len hok
  rw [hn] at hl
  obtain ⟨hc1, hc2⟩ := hcap
  unfold maxLen at hc2
  obtain ⟨i0, hi, hz0, hz1, hz2⟩ := info_parts int_info
  have HV := Lib.hid hv
  have HN := Lib.hid hn
  have HOK := Lib.hid hok
  obtain ⟨b, off, rfl, hbb, _⟩ := hr (by omega)
  clear hv hn hok
  have hpost : ∀ e w', (∃ out : List Int, fillR xs h n 0 [] 0 = some out ∧ ∃ (A : Option Addr) (c : Nat), e = .returned (.tuple #[.slice A (out ++ [(n : Int)]).length c, .bool true]) ∧ OwnI w' w.heap.size A (out ++ [(n : Int)]).length c (out ++ [(n : Int)]) ∧ Below w.heap.size w w') ∨ (fillR xs h n 0 [] 0 = none ∧ e = .returned (.tuple #[.slice none 0 0, .bool false]) ∧ Below w.heap.size w w') → IntsBool w (fillV xs h).1 (fillV xs h).2 e w' := by
    rintro e w' (⟨out, ho, A, c, h1, h2, h3⟩ | ⟨ho, h1, h2⟩)
    · rw [fill_yes HN.out HV.out ho]
      exact ⟨A, c, h1, h2, h3⟩
    · rw [fill_no HN.out ho]
      exact ⟨none, 0, h1, ownI_none _ _, h2⟩
  have HPost := Lib.hid hpost
  clear hpost
  go_enter Try.func24, Try.ntmps24
  go_wp2_with fail
  ((with_reducible refine (validPaging_i _ _ _ _ xs _ HN.out hm ?_).mono ?_); (exact hr); rintro e w1 ⟨rfl, hb1⟩)
  rw [HV.out]
  have hr1 := Lib.hid (hr.then_ hb1)
  have hz1' := hb1.size
  clear hr
  go_wp2_with fail
  go_loopg [6, 7, 15] n (fun kk o fr i wr => ∃ (k f c q : Nat) (B : Option Addr) (out : List Int), kk = n - k ∧ k ≤ n ∧ f ≤ k ∧ q ≤ k ∧ i = .int .i64 (k : Int) ∧ fr = .int .i64 (f : Int) ∧ o = .slice B q c ∧ Hid (OwnI wr w1.heap.size B q c out) ∧ Hid (fillR xs h n 0 [] 0 = fillR xs h (n - k) k out f) ∧ Below w1.heap.size w1 wr)
  case atStart => exact ⟨0, 0, 0, 0, none, [], rfl, Nat.zero_le _, Nat.le_refl _, Nat.le_refl _, rfl, rfl, rfl, ownI_none _ _, rfl, Below.refl _ _⟩
  case round =>
    obtain ⟨k, f, c, q, B, out, hk', hkn, hfk, hqk, rfl, rfl, rfl, hown, hR, hbel⟩ := hrel
    have HK := Lib.hid hk'; clear hk'
    have hsz := hbel.size
    by_cases hlt : k < n
    · have hrow := hr1.out.then_ hbel
      have hkc : ¬ cap = k := by omega
      have hfc : ¬ cap = f := by omega
      have i1 : (k : Int) < (n : Int) := by omega
      have i2 : (k : Int) + 1 ≤ (cap : Int) := by omega
      have i3 : (0 : Int) ≤ (k : Int) := by omega
      have i4 : (k : Int) ≤ (k : Int) + 1 := by omega
      have i5 : (f : Int) ≤ (k : Int) + 1 := by omega
      have i6 : (0 : Int) ≤ (f : Int) := by omega
      have i7 : ((k : Int) + 1).toNat = k + 1 := by omega
      obtain ⟨v1, hv1⟩ : ∃ v, pageH (seg xs k (k + 1)) = v := ⟨_, rfl⟩
      obtain ⟨v2, hv2⟩ : ∃ v, pageH (seg xs f (k + 1)) = v := ⟨_, rfl⟩
      have hb1' := pageH_bound HOK.out HN.out (show k ≤ k + 1 by omega) (show k + 1 ≤ n by omega)
      have hb2' := pageH_bound HOK.out HN.out (show f ≤ k + 1 by omega) (show k + 1 ≤ n by omega)
      rw [hv1] at hb1'
      rw [hv2] at hb2'
      have hstep := fillR_step (xs := xs) (h := h) (out := out) (f := f) hlt
      rw [hv1, hv2] at hstep
      have HV1 := Lib.hid hv1
      have HV2 := Lib.hid hv2
      have HST := Lib.hid hstep
      have hsl1 : Hid ((seg xs k (k + 1)).length = 1) := (seg_len HN.out (by omega)).trans (by omega)
      have hsl2 : Hid ((seg xs f (k + 1)).length = k + 1 - f) := seg_len HN.out (by omega)
      have HLO1 := Lib.hid (lineOk_seg HOK.out k (k + 1))
      have HLO2 := Lib.hid (lineOk_seg HOK.out f (k + 1))
      have HRow := Lib.hid hrow
      clear hv1 hv2 hstep hrow
      by_cases hbad : h < v1
      · have hno : fillR xs h n 0 [] 0 = none := by rw [hR.out, HST.out, if_pos (by omega)]
        have HNO := Lib.hid hno; clear hno
        go_wp2_with fail
        ((with_reducible refine (pageHeight_i _ _ _ (seg xs k (k + 1)) _ HLO1.out hsl1.out (by omega) ?_).mono ?_); (exact rowSeg1 HN.out HRow.out k hlt); rintro e w2 ⟨rfl, hb2⟩)
        rw [HV1.out]
        go_wp2_with fail
        go_ret2
        exact HPost.out _ _ (.inr ⟨HNO.out, rfl, by (repeat' (first | (with_reducible exact Below.refl _ _) | (with_reducible assumption) | (with_reducible refine Below.alloc ?_ ?_ _) | (with_reducible refine Below.drew ?_) | (with_reducible refine below_drewN ?_ _) | (with_reducible refine Below.setCell ?_ ?_ _) | (with_reducible refine below_then ?_ ?_ (by with_reducible assumption)) | (with_reducible exact Nat.le_refl _) | go_size | (simp only [*]; done)))⟩)
      go_wp2_with fail
      ((with_reducible refine (pageHeight_i _ _ _ (seg xs k (k + 1)) _ HLO1.out hsl1.out (by omega) ?_).mono ?_); (exact rowSeg1 HN.out HRow.out k hlt); rintro e w2 ⟨rfl, hb2⟩)
      rw [HV1.out]
      have hz2' := hb2.size
      have hB2 := below_then (Nat.le_refl _) hbel hb2
      go_wp2_with fail
      ((with_reducible refine (pageHeight_i _ _ _ (seg xs f (k + 1)) _ HLO2.out hsl2.out (by omega) ?_).mono ?_); (exact (HRow.out.then_ hb2).seg HN.out f (k + 1) (by omega)); rintro e w3 ⟨rfl, hb3⟩)
      rw [HV2.out]
      have hz3' := hb3.size
      have hB3 := below_then (Nat.le_refl _) hB2 hb3
      have hown3 := Lib.hid ((hown.out.then_ hb2).then_ hb3)
      by_cases hnew : h < v2
      · have hR2 : fillR xs h n 0 [] 0 = fillR xs h (n - (k + 1)) (k + 1) (out ++ [(k : Int)]) k := by rw [hR.out, HST.out, if_neg (by omega), if_pos (by omega)]
        have HR2 := Lib.hid hR2; clear hR2
        have HO := Lib.hid (hown3.out.alloc (.cells #[.int .i64 (k : Int)] 3))
        have HB := Lib.hid (Blk.new w3 3 #[.int .i64 (k : Int)])
        have hbase : w1.heap.size ≤ (w3.alloc (.cells #[.int .i64 (k : Int)] 3)).heap.size := by simp; omega
        have hB3a := hB3.alloc hB3.size (.cells #[.int .i64 (k : Int)] 3)
        go_wp2_with (at_builtin; (refine wpList_append_one _ rfl _ _ 37 rfl w1.heap.size 3 i0 _ 1 8 Try.underlying37 hi hz0 hz1 hz2 rfl (by omega) B q c (inl out) rfl HO.out w3.heap.size (inl [(k : Int)]) rfl rfl HB.out (inl_one _) (by omega) (by omega) hbase ?_); intro g4 c4 w4 hown4 hgr4; (have HO4 := Lib.hid hown4); (have hB4 := hB3a.grown hgr4 hB3a.size (fun j hj => (HO.out.lt j hj).1)); clear hown4 hgr4)
        go_roundg (n - (k + 1))
        case measure => have := HK.out; omega
        case rel => exact ⟨k + 1, k, c4, q + 1, some ⟨g4, 0, none⟩, out ++ [(k : Int)], rfl, by omega, by omega, by omega, by go_num, rfl, rfl, (by show World.ownsRow _ _ _ _ _ _ _; rw [inl_snoc]; exact HO4.out), HR2.out, hB4⟩
      · have hR2 : fillR xs h n 0 [] 0 = fillR xs h (n - (k + 1)) (k + 1) out f := by rw [hR.out, HST.out, if_neg (by omega), if_neg (by omega)]
        have HR2 := Lib.hid hR2; clear hR2
        go_wp2_with fail
        go_roundg (n - (k + 1))
        case measure => have := HK.out; omega
        case rel => exact ⟨k + 1, f, c, q, B, out, rfl, by omega, by omega, by omega, by go_num, rfl, rfl, hown3.out, HR2.out, hB3⟩
    · have ek : k = n := by omega
      have hfin : fillR xs h n 0 [] 0 = some out := by rw [hR.out, ek, Nat.sub_self]; rfl
      have HF := Lib.hid hfin
      clear hfin
      subst ek
      have HO := Lib.hid (hown.out.alloc (.cells #[.int .i64 (k : Int)] 3))
      have HB := Lib.hid (Blk.new wr 3 #[.int .i64 (k : Int)])
      have hbase : w1.heap.size ≤ (wr.alloc (.cells #[.int .i64 (k : Int)] 3)).heap.size := by simp; omega
      have hB3a := hbel.alloc hsz (.cells #[.int .i64 (k : Int)] 3)
      go_wp2_with (at_builtin; (refine wpList_append_one _ rfl _ _ 37 rfl w1.heap.size 3 i0 _ 1 8 Try.underlying37 hi hz0 hz1 hz2 rfl (by omega) B q c (inl out) rfl HO.out wr.heap.size (inl [(k : Int)]) rfl rfl HB.out (inl_one _) (by omega) (by omega) hbase ?_); intro g4 c4 w4 hown4 hgr4; (have HO4 := Lib.hid hown4); (have hB4 := hB3a.grown hgr4 hB3a.size (fun j hj => (HO.out.lt j hj).1)); clear hown4 hgr4)
      go_ret2
      have hol : (out ++ [(k : Int)]).length = q + 1 := by rw [List.length_append, hown.out.len]; rfl
      refine HPost.out _ _ (.inl ⟨out, HF.out, some ⟨g4, 0, none⟩, c4, ?_, ?_, below_then (Nat.le_refl _) hb1 hB4⟩)
      · rw [hol]; rfl
      · rw [hol]
        refine OwnI.mono (base := w1.heap.size) ?_ hz1'
        show World.ownsRow _ _ _ _ _ _ _
        rw [inl_snoc]
        exact HO4.out

set_option maxHeartbeats 4000000 in
theorem fill_s (A : Option Addr) (n cap : Nat) (h : Int) (xs : List Ln) (w : World) (hn : xs.length = n) (hm : n ≤ maxLen) (hr : Row w w.heap.size 3 A n (lnc xs)) :
    Calls Try.prog 23 #[.slice A n cap, .int .i64 h] w (IntsBool w (fillV xs h).1 (fillV xs h).2) := by
  rcases hok : linesOk xs with _ | _
  · rw [fill_bad (show pagingOk xs h = false by rw [pagingOk, hok]; rfl)]
    go_enter Try.func23, Try.ntmps23
    go_wp2_with fail
    ((with_reducible refine (validLines_s _ _ _ xs _ hn hm ?_).mono ?_); (exact hr.alloc' _); rintro e w1 ⟨rfl, hb⟩)
    rw [hok]
    go_wp2
    go_ret2
    exact ⟨none, 0, rfl, ownI_none _ _, by (repeat' (first | (with_reducible exact Below.refl _ _) | (with_reducible assumption) | (with_reducible refine Below.alloc ?_ ?_ _) | (with_reducible refine Below.drew ?_) | (with_reducible refine below_drewN ?_ _) | (with_reducible refine Below.setCell ?_ ?_ _) | (with_reducible refine below_then ?_ ?_ (by with_reducible assumption)) | (with_reducible exact Nat.le_refl _) | go_size | (simp only [*]; done)))⟩
  rcases hwd : widthOk h with _ | _
  · rw [fill_bad (show pagingOk xs h = false by rw [pagingOk, hok, hwd]; rfl)]
    have HOK := Lib.hid hok; clear hok
    go_enter Try.func23, Try.ntmps23
    go_wp2_with fail
    ((with_reducible refine (validLines_s _ _ _ xs _ hn hm ?_).mono ?_); (exact hr.alloc' _); rintro e w1 ⟨rfl, hb⟩)
    rw [HOK.out]
    go_wp2_with fail
    ((with_reducible refine (validWidth_any _ _).mono ?_); rintro e w' ⟨rfl, rfl⟩)
    rw [hwd]
    go_wp2
    go_ret2
    exact ⟨none, 0, rfl, ownI_none _ _, by (repeat' (first | (with_reducible exact Below.refl _ _) | (with_reducible assumption) | (with_reducible refine Below.alloc ?_ ?_ _) | (with_reducible refine Below.drew ?_) | (with_reducible refine below_drewN ?_ _) | (with_reducible refine Below.setCell ?_ ?_ _) | (with_reducible refine below_then ?_ ?_ (by with_reducible assumption)) | (with_reducible exact Nat.le_refl _) | go_size | (simp only [*]; done)))⟩
  have hv : pagingOk xs h = true := by rw [pagingOk, hok, hwd]; rfl
  obtain ⟨_, h1, h2⟩ := paging_iff hv
  have hl := linesOk_len hok
  rw [hn] at hl
  obtain ⟨i0, hi, hz0, hz1, hz2⟩ := info_parts int_info
  have HV := Lib.hid hv
  have HN := Lib.hid hn
  have HOK := Lib.hid hok
  have HWD := Lib.hid hwd
  clear hv hn hok hwd
  have hpost : ∀ e w', (∃ out : List Int, fillV xs h = (out, true) ∧ ∃ (A : Option Addr) (c : Nat), e = .returned (.tuple #[.slice A out.length c, .bool true]) ∧ OwnI w' w.heap.size A out.length c out ∧ Below w.heap.size w w') ∨ (fillR xs h n 0 [] 0 = none ∧ e = .returned (.tuple #[.slice none 0 0, .bool false]) ∧ Below w.heap.size w w') → IntsBool w (fillV xs h).1 (fillV xs h).2 e w' := by
    rintro e w' (⟨out, ho, A, c, h1, h2, h3⟩ | ⟨ho, h1, h2⟩)
    · rw [ho]
      exact ⟨A, c, h1, h2, h3⟩
    · rw [fill_no HN.out ho]
      exact ⟨none, 0, h1, ownI_none _ _, h2⟩
  have HPost := Lib.hid hpost
  clear hpost
  go_enter Try.func23, Try.ntmps23
  go_wp2_with fail
  ((with_reducible refine (validLines_s _ _ _ xs _ HN.out hm ?_).mono ?_); (exact hr.alloc' _); rintro e w1 ⟨rfl, hb1⟩)
  rw [HOK.out]
  have hE := Lib.hid ((Blk.new w 3 #[]).then_ hb1)
  have hz1' := hb1.size
  simp only [World.size_alloc] at hz1'
  have hr1 := Lib.hid ((hr.alloc' _).then_ hb1)
  have hB1 : Below w.heap.size w w1 := below_then (Nat.le_refl _) (by (repeat' (first | (with_reducible exact Below.refl _ _) | (with_reducible assumption) | (with_reducible refine Below.alloc ?_ ?_ _) | (with_reducible refine Below.drew ?_) | (with_reducible refine below_drewN ?_ _) | (with_reducible refine Below.setCell ?_ ?_ _) | (with_reducible refine below_then ?_ ?_ (by with_reducible assumption)) | (with_reducible exact Nat.le_refl _) | go_size | (simp only [*]; done)))) hb1
  have hr0 := Lib.hid hr
  clear hr
  go_wp2_with fail
  ((with_reducible refine (validWidth_any _ _).mono ?_); rintro e w' ⟨rfl, rfl⟩)
  rw [HWD.out]
  go_wp2_with fail
  go_loopg [6, 7, 8] n (fun kk o fr _ wr => ∃ (f g c q : Nat) (out : List Int), kk = n - f ∧ f ≤ n ∧ q ≤ f ∧ fr = .int .i64 (f : Int) ∧ o = .slice (some ⟨g, 0, none⟩) q c ∧ Hid (OwnI wr w.heap.size (some ⟨g, 0, none⟩) q c out) ∧ Hid ((f < n → fillR xs h n 0 [] 0 = fillR xs h (n - f) f out f) ∧ (f = n → fillV xs h = (out, true))) ∧ Below w.heap.size w wr)
  case atStart => exact ⟨0, w.heap.size, 0, 0, [], rfl, Nat.zero_le _, Nat.le_refl _, rfl, rfl, owns_nil _ _ _ _ _ _ _ hE.out (Nat.le_refl _) (by unfold maxLen; omega) rfl, ⟨fun _ => rfl, fun h => by omega⟩, hB1⟩
  case round =>
    obtain ⟨f, g, c, q, out, hk', hfn, hqf, rfl, rfl, hown, hR, hbel⟩ := hrel
    have HK := Lib.hid hk'; clear hk'
    obtain ⟨wo, hwo⟩ : ∃ wo : World, wo = wr := ⟨_, rfl⟩
    subst hwo
    have hsz := hbel.size
    by_cases hlt : f < n
    · have hlt' : (f : Int) < (n : Int) := by omega
      have HR1 := Lib.hid (hR.out.1 hlt)
      have hrow := Lib.hid ((hr0.out.below hbel).more hsz)
      go_wp2_with fail
      go_loopg [8] (n - f) (fun kk to wi => ∃ t : Nat, kk = n - t ∧ f ≤ t ∧ t ≤ n ∧ to = .int .i64 (t : Int) ∧ Hid (fillR xs h n 0 [] 0 = fillR xs h (n - t) t out f) ∧ Below wo.heap.size wo wi)
      case atStart => exact ⟨f, rfl, Nat.le_refl _, hfn, rfl, HR1.out, Below.refl _ _⟩
      case round =>
        obtain ⟨t, hkt, hft, htn, rfl, hRt, hbi⟩ := hrel
        have HKT := Lib.hid hkt; clear hkt
        have hszi := hbi.size
        by_cases htl : t < n
        · have htl' : (t : Int) < (n : Int) := by omega
          obtain ⟨v, hv⟩ : ∃ v, pageH (seg xs f (t + 1)) = v := ⟨_, rfl⟩
          have hle := pageH_less HOK.out HN.out hft htl
          rw [hv] at hle
          have HVE := Lib.hid hv
          have HLE := Lib.hid hle
          have e1 : (t : Int) + 1 = ((t + 1 : Nat) : Int) := by omega
          have E1 := Lib.hid e1
          clear hv hle e1
          by_cases hfit : v ≤ h
          · have hRn : fillR xs h n 0 [] 0 = fillR xs h (n - (t + 1)) (t + 1) out f := by
              have := HLE.out
              rw [hRt.out, fillR_step htl, if_neg (by omega), HVE.out, if_neg (by omega)]
            have HRN := Lib.hid hRn; clear hRn
            go_wp2_with fail
            rw [E1.out]
            ((with_reducible refine (pageHeight_s _ _ _ f (t + 1) xs _ HOK.out HN.out (by omega) (by omega) ?_).mono ?_); (exact hrow.out.then_ hbi); rintro e wz ⟨rfl, hbz⟩)
            rw [HVE.out]
            go_wp2_with fail
            go_roundg (n - (t + 1))
            case measure => have := HKT.out; omega
            case rel => exact ⟨t + 1, rfl, by omega, by omega, by go_num, HRN.out, by (repeat' (first | (with_reducible exact Below.refl _ _) | (with_reducible assumption) | (with_reducible refine Below.alloc ?_ ?_ _) | (with_reducible refine Below.drew ?_) | (with_reducible refine below_drewN ?_ _) | (with_reducible refine Below.setCell ?_ ?_ _) | (with_reducible refine below_then ?_ ?_ (by with_reducible assumption)) | (with_reducible exact Nat.le_refl _) | go_size | (simp only [*]; done)))⟩
          · by_cases htf : t = f
            · have hno : fillR xs h n 0 [] 0 = none := by
                rw [hRt.out, fillR_step htl, if_pos (by have := HVE.out; rw [← htf] at this; rw [this]; omega)]
              have HNO := Lib.hid hno; clear hno
              have htf' : ((t : Int) == (f : Int)) = true := by simp [htf]
              have htf2 : (t : Int) = (f : Int) := by omega
              have HTF := Lib.hid htf
              clear htf htf2
              go_wp2_with fail
              rw [E1.out]
              ((with_reducible refine (pageHeight_s _ _ _ f (t + 1) xs _ HOK.out HN.out (by omega) (by omega) ?_).mono ?_); (exact hrow.out.then_ hbi); rintro e wz ⟨rfl, hbz⟩)
              rw [HVE.out]
              go_wp2_with fail
              go_ret2
              exact HPost.out _ _ (.inr ⟨HNO.out, rfl, below_then (Nat.le_refl _) (below_then (Nat.le_refl _) hbel hbi) hbz⟩)
            · have hnew : fillR xs h n 0 [] 0 = fillR xs h (n - t) t (out ++ [(t : Int)]) t := by
                rw [hRt.out, fillR_new htl (by rw [HVE.out]; omega)]
              have HNEW : Hid ((t < n → fillR xs h n 0 [] 0 = fillR xs h (n - t) t (out ++ [(t : Int)]) t) ∧ (t = n → fillV xs h = (out ++ [(t : Int)], true))) := ⟨fun _ => hnew, fun h => by omega⟩
              have htf' : ((t : Int) == (f : Int)) = false := by simp; omega
              clear hnew
              go_wp2_with fail
              rw [E1.out]
              ((with_reducible refine (pageHeight_s _ _ _ f (t + 1) xs _ HOK.out HN.out (by omega) (by omega) ?_).mono ?_); (exact hrow.out.then_ hbi); rintro e wz ⟨rfl, hbz⟩)
              rw [HVE.out]
              have HBX := Lib.hid hbz
              have hBz := below_then (Nat.le_refl _) (below_then (Nat.le_refl _) hbel hbi) hbz
              have HO := Lib.hid (((hown.out.then_ hbi).then_ HBX.out).alloc (.cells #[.int .i64 (t : Int)] 3))
              have HB := Lib.hid (Blk.new wz 3 #[.int .i64 (t : Int)])
              have hbase : w.heap.size ≤ (wz.alloc (.cells #[.int .i64 (t : Int)] 3)).heap.size := by have := hBz.size; simp; omega
              have hB3a := hBz.alloc hBz.size (.cells #[.int .i64 (t : Int)] 3)
              go_wp2_with (at_builtin; (refine wpList_append_one _ rfl _ _ 37 rfl w.heap.size 3 i0 _ 1 8 Try.underlying37 hi hz0 hz1 hz2 rfl (by omega) (some ⟨g, 0, none⟩) q c (inl out) rfl HO.out wz.heap.size (inl [(t : Int)]) rfl rfl HB.out (inl_one _) (by omega) (by omega) hbase ?_); intro g4 c4 w4 hown4 hgr4; (have HO4 := Lib.hid hown4); (have hB4 := hB3a.grown hgr4 hB3a.size (fun j hj => (HO.out.lt j hj).1)); clear hown4 hgr4)
              go_roundg (n - t)
              case measure => have := HK.out; omega
              case rel => exact ⟨t, g4, c4, q + 1, out ++ [(t : Int)], rfl, by omega, by omega, rfl, rfl, (by show World.ownsRow _ _ _ _ _ _ _; rw [inl_snoc]; exact HO4.out), HNEW.out, hB4⟩
        · have et : t = n := by omega
          have hnew : fillV xs h = (out ++ [(n : Int)], true) := fill_yes HN.out HV.out (by rw [hRt.out, et, Nat.sub_self]; rfl)
          have HNV := Lib.hid hnew
          have et' : n = t := et.symm
          clear et hnew
          obtain ⟨wz, hwz⟩ : ∃ wz : World, wz = wr := ⟨_, rfl⟩
          subst hwz
          have HBX := Lib.hid (Below.refl wz.heap.size wz)
          have hBz := below_then (Nat.le_refl _) hbel hbi
          subst et'
          have htf' : ((n : Int) == (f : Int)) = false := by simp; omega
          have HO := Lib.hid (((hown.out.then_ hbi).then_ HBX.out).alloc (.cells #[.int .i64 (n : Int)] 3))
          have HB := Lib.hid (Blk.new wz 3 #[.int .i64 (n : Int)])
          have hbase : w.heap.size ≤ (wz.alloc (.cells #[.int .i64 (n : Int)] 3)).heap.size := by have := hBz.size; simp; omega
          have hB3a := hBz.alloc hBz.size (.cells #[.int .i64 (n : Int)] 3)
          go_wp2_with (at_builtin; (refine wpList_append_one _ rfl _ _ 37 rfl w.heap.size 3 i0 _ 1 8 Try.underlying37 hi hz0 hz1 hz2 rfl (by omega) (some ⟨g, 0, none⟩) q c (inl out) rfl HO.out wz.heap.size (inl [(n : Int)]) rfl rfl HB.out (inl_one _) (by omega) (by omega) hbase ?_); intro g4 c4 w4 hown4 hgr4; (have HO4 := Lib.hid hown4); (have hB4 := hB3a.grown hgr4 hB3a.size (fun j hj => (HO.out.lt j hj).1)); clear hown4 hgr4)
          go_roundg (n - n)
          case measure => have := HK.out; omega
          case rel => exact ⟨n, g4, c4, q + 1, out ++ [(n : Int)], rfl, by omega, by omega, rfl, rfl, (by show World.ownsRow _ _ _ _ _ _ _; rw [inl_snoc]; exact HO4.out), ⟨fun h => by omega, fun _ => HNV.out⟩, hB4⟩
    · have ef : f = n := by omega
      have hV := Lib.hid (hR.out.2 ef)
      go_wp2_with fail
      go_ret2
      have hol := hown.out.len
      refine HPost.out _ _ (.inl ⟨out, hV.out, some ⟨g, 0, none⟩, c, ?_, ?_, hbel⟩)
      · rw [hol]; rfl
      · rw [hol]
        exact hown.out
end Go.Proofs.Yticdgpgbpgjnbaa
