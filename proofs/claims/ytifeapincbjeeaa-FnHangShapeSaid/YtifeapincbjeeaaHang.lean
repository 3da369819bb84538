/- HangShape, of the program and of the reference, returns what the plain function says. No condition. -/
import Derived.Test.YtifeapincbjeeaaHangPlain
import Derived.Test.YtifeapincbjeeaaRepeat
namespace Go.Proofs.Ytifeapincbjeeaa
open Go.RowKit

/-- What a call leaves that returns numbers of its own and a bool. -/
def IntsBool (w : World) (xs : List Int) (b : Bool) (e : Ending) (w' : World) : Prop :=
  ∃ (A : Option Addr) (c : Nat), e = .returned (.tuple #[.slice A xs.length c, .bool b]) ∧ OwnI w' w.heap.size A xs.length c xs ∧ Below w.heap.size w w'
theorem ownI_none (w : World) (base : Nat) : OwnI w base none 0 0 [] := ⟨rfl, .inl ⟨rfl, rfl⟩⟩

set_option maxHeartbeats 1000000 in
theorem hang_i (a i f c : Int) (w : World) :
    Calls Try.prog 16 #[.int .i64 a, .int .i64 i, .int .i64 f, .int .i64 c] w (IntsBool w (hangF a i f c).1 (hangF a i f c).2) := by
  rcases h1 : inR a 1 10000 with _ | _
  · rw [hang_no (by simp [hangOk, h1])]
    go_enter Try.func16, Try.ntmps16
    go_wp2_with (go_at_call 29; refine (within_any _ _ _ _).mono ?_; rintro e w' ⟨rfl, rfl⟩)
    go_ret2
    exact ⟨none, 0, rfl, ownI_none _ _, Below.refl _ _⟩
  obtain ⟨a1, a2⟩ := inR_iff.1 h1
  rcases h2 : inR i 0 (a - 1) with _ | _
  · rw [hang_no (by simp [hangOk, h2])]
    go_enter Try.func16, Try.ntmps16
    go_wp2_with (go_at_call 29; refine (within_any _ _ _ _).mono ?_; rintro e w' ⟨rfl, rfl⟩)
    go_ret2
    exact ⟨none, 0, rfl, ownI_none _ _, Below.refl _ _⟩
  rcases h3 : inR f 0 12 with _ | _
  · rw [hang_no (by simp [hangOk, h3])]
    go_enter Try.func16, Try.ntmps16
    go_wp2_with (go_at_call 29; refine (within_any _ _ _ _).mono ?_; rintro e w' ⟨rfl, rfl⟩)
    go_ret2
    exact ⟨none, 0, rfl, ownI_none _ _, Below.refl _ _⟩
  rcases h4 : inR c 0 12 with _ | _
  · rw [hang_no (by simp [hangOk, h4])]
    go_enter Try.func16, Try.ntmps16
    go_wp2_with (go_at_call 29; refine (within_any _ _ _ _).mono ?_; rintro e w' ⟨rfl, rfl⟩)
    go_ret2
    exact ⟨none, 0, rfl, ownI_none _ _, Below.refl _ _⟩
  obtain ⟨f1, f2⟩ := inR_iff.1 h3
  obtain ⟨c1, c2⟩ := inR_iff.1 h4
  obtain ⟨i1, i2⟩ := inR_iff.1 h2
  by_cases h5 : f + c < 12
  · obtain ⟨fk, rfl⟩ := Int.eq_ofNat_of_zero_le f1
    obtain ⟨ck, rfl⟩ := Int.eq_ofNat_of_zero_le c1
    rw [hang_yes (by simp [hangOk, h1, h2, h3, h4]; omega)]
    obtain ⟨i0, hi, hz0, hz1, hz2⟩ := info_parts int_info
    go_enter Try.func16, Try.ntmps16
    go_wp2_with (go_at_call 29; refine (within_any _ _ _ _).mono ?_; rintro e w' ⟨rfl, rfl⟩)
    clear h1 h2 h3 h4
    ((with_reducible refine (repeat_any _ a fk (by omega) _ ?_).mono ?_); (exact (Blk.new _ _ _).cell 0); rintro e w1 ⟨rfl, ho1, hb1⟩)
    have hz1' := hb1.size
    simp only [World.size_alloc] at hz1' ho1
    go_wp2_with fail
    ((with_reducible refine (repeat_any _ (a - i) ck (by omega) _ ?_).mono ?_); (exact (Blk.new _ _ _).cell 0); rintro e w2 ⟨rfl, ho2, hb2⟩)
    have hz2' := hb2.size
    simp only [World.size_alloc] at hz2' ho2
    have HO1 := Lib.hid (((ho1.mono (show w.heap.size ≤ w.heap.size + 1 by omega)).alloc (.cells #[.int .i64 (a - i)] 3)).then_ hb2)
    have HN2 := Lib.hid (World.ownsRow.cells ho2 (g := w1.heap.size + 1) rfl)
    have hb2' : Below w.heap.size w w2 := below_then (Nat.le_refl _) (by (repeat' (first | (with_reducible exact Below.refl _ _) | (with_reducible assumption) | (with_reducible refine Below.alloc ?_ ?_ _) | (with_reducible refine Below.drew ?_) | (with_reducible refine below_drewN ?_ _) | (with_reducible refine Below.setCell ?_ ?_ _) | (with_reducible refine below_then ?_ ?_ (by with_reducible assumption)) | (with_reducible exact Nat.le_refl _) | go_size | (simp only [*]; done)))) hb2
    have hz2'' := hb2'.size
    clear ho1 ho2
    go_wp2_with (first
      | (at_builtin; (refine wpList_append_own _ rfl (.tmp 41) (.tmp 47) 22 rfl w.heap.size 3 i0 _ 1 8 Try.underlying22 hi hz0 hz1 hz2 rfl (by omega) _ fk (inl (List.replicate fk a)) rfl HO1.out ⟨w1.heap.size + 1, 0, none⟩ ck ck (inl (List.replicate ck (a - i))) rfl (by simp [inl]) HN2.out (inl_one _) (by unfold maxLen; omega) (by omega) (by omega) ?_); intro v' w3 hown3 hgr3 _; obtain ⟨A3, c3, rfl⟩ := own_form hown3; (have hb3 := hb2'.grown hgr3 hz2'' (fun k hk => (HO1.out.lt k hk).1)); (have hz3 := hb3.size); (have HO3 := Lib.hid (hown3.alloc (.cells #[.int .i64 a] 3))); (have HB3 := Lib.hid (Blk.new w3 3 #[.int .i64 a])); (have hb3' := hb3.alloc hz3 (.cells #[.int .i64 a] 3)); (have hz4 := hb3'.size); clear hown3 hgr3)
      | (at_builtin; (refine wpList_append_one _ rfl (.tmp 49) (.tmp 51) 22 rfl w.heap.size 3 i0 _ 1 8 Try.underlying22 hi hz0 hz1 hz2 rfl (by omega) A3 (fk + ck) c3 (inl (List.replicate fk a) ++ inl (List.replicate ck (a - i))) rfl HO3.out w3.heap.size (inl [a]) rfl rfl HB3.out (inl_one _) (by omega) (by omega) hz4 ?_); intro g4 c4 w4 hown4 hgr4; (have HO4 := Lib.hid hown4); (have hb4 := hb3'.grown hgr4 hz4 (fun k hk => (HO3.out.lt k hk).1)); clear hown4 hgr4))
    go_ret2
    have e : hangL a (a - i) fk ck = List.replicate fk a ++ (List.replicate ck (a - i) ++ [a]) := rfl
    refine ⟨some ⟨g4, 0, none⟩, c4, ?_, ?_, hb4⟩
    · rw [hangL_len]; rfl
    · rw [hangL_len, e]
      have := HO4.out
      show World.ownsRow _ _ _ _ _ _ _
      simpa [inl] using this
  · rw [hang_no (by simp [hangOk, h5])]
    go_enter Try.func16, Try.ntmps16
    go_wp2_with (go_at_call 29; refine (within_any _ _ _ _).mono ?_; rintro e w' ⟨rfl, rfl⟩)
    go_ret2
    exact ⟨none, 0, rfl, ownI_none _ _, Below.refl _ _⟩

theorem hang_no' {a i f c : Int} (h : ¬ ((1 ≤ a ∧ a ≤ 10000) ∧ (0 ≤ i ∧ i ≤ a - 1) ∧ (0 ≤ f ∧ f ≤ 12) ∧ (0 ≤ c ∧ c ≤ 12) ∧ f + c < 12)) : hangF a i f c = ([], false) :=
  hang_no (Bool.eq_false_iff.2 fun h1 => h (hangOk_iff.1 h1))

set_option maxHeartbeats 1000000 in
theorem hang_s (a i f c : Int) (w : World) :
    Calls Try.prog 15 #[.int .i64 a, .int .i64 i, .int .i64 f, .int .i64 c] w (IntsBool w (hangF a i f c).1 (hangF a i f c).2) := by
  rcases h1 : widthOk a with _ | _
  · rw [hang_no' (fun h => by have := inR_no.1 (show inR a 1 10000 = false from h1); omega)]
    go_enter Try.func15, Try.ntmps15
    go_wp2_with (first | (go_at_call 27; refine (validWidth_any _ _).mono ?_; rintro e w' ⟨rfl, rfl⟩) | (go_at_call 28; refine (inRange_any _ _ _ _).mono ?_; rintro e w' ⟨rfl, rfl⟩))
    go_ret2
    exact ⟨none, 0, rfl, ownI_none _ _, by (repeat' (first | (with_reducible exact Below.refl _ _) | (with_reducible assumption) | (with_reducible refine Below.alloc ?_ ?_ _) | (with_reducible refine Below.drew ?_) | (with_reducible refine below_drewN ?_ _) | (with_reducible refine Below.setCell ?_ ?_ _) | (with_reducible refine below_then ?_ ?_ (by with_reducible assumption)) | (with_reducible exact Nat.le_refl _) | go_size | (simp only [*]; done)))⟩
  obtain ⟨a1, a2⟩ := inR_iff.1 (show inR a 1 10000 = true from h1)
  rcases h2 : inR i 0 (a - 1) with _ | _
  · rw [hang_no' (fun h => by have := inR_no.1 h2; omega)]
    go_enter Try.func15, Try.ntmps15
    go_wp2_with (first | (go_at_call 27; refine (validWidth_any _ _).mono ?_; rintro e w' ⟨rfl, rfl⟩) | (go_at_call 28; refine (inRange_any _ _ _ _).mono ?_; rintro e w' ⟨rfl, rfl⟩))
    go_ret2
    exact ⟨none, 0, rfl, ownI_none _ _, by (repeat' (first | (with_reducible exact Below.refl _ _) | (with_reducible assumption) | (with_reducible refine Below.alloc ?_ ?_ _) | (with_reducible refine Below.drew ?_) | (with_reducible refine below_drewN ?_ _) | (with_reducible refine Below.setCell ?_ ?_ _) | (with_reducible refine below_then ?_ ?_ (by with_reducible assumption)) | (with_reducible exact Nat.le_refl _) | go_size | (simp only [*]; done)))⟩
  obtain ⟨i1, i2⟩ := inR_iff.1 h2
  by_cases h3 : f < 0
  · rw [hang_no' (fun h => by omega)]
    go_enter Try.func15, Try.ntmps15
    go_wp2_with (first | (go_at_call 27; refine (validWidth_any _ _).mono ?_; rintro e w' ⟨rfl, rfl⟩) | (go_at_call 28; refine (inRange_any _ _ _ _).mono ?_; rintro e w' ⟨rfl, rfl⟩))
    go_ret2
    exact ⟨none, 0, rfl, ownI_none _ _, by (repeat' (first | (with_reducible exact Below.refl _ _) | (with_reducible assumption) | (with_reducible refine Below.alloc ?_ ?_ _) | (with_reducible refine Below.drew ?_) | (with_reducible refine below_drewN ?_ _) | (with_reducible refine Below.setCell ?_ ?_ _) | (with_reducible refine below_then ?_ ?_ (by with_reducible assumption)) | (with_reducible exact Nat.le_refl _) | go_size | (simp only [*]; done)))⟩
  by_cases h4 : c < 0
  · rw [hang_no' (fun h => by omega)]
    go_enter Try.func15, Try.ntmps15
    go_wp2_with (first | (go_at_call 27; refine (validWidth_any _ _).mono ?_; rintro e w' ⟨rfl, rfl⟩) | (go_at_call 28; refine (inRange_any _ _ _ _).mono ?_; rintro e w' ⟨rfl, rfl⟩))
    go_ret2
    exact ⟨none, 0, rfl, ownI_none _ _, by (repeat' (first | (with_reducible exact Below.refl _ _) | (with_reducible assumption) | (with_reducible refine Below.alloc ?_ ?_ _) | (with_reducible refine Below.drew ?_) | (with_reducible refine below_drewN ?_ _) | (with_reducible refine Below.setCell ?_ ?_ _) | (with_reducible refine below_then ?_ ?_ (by with_reducible assumption)) | (with_reducible exact Nat.le_refl _) | go_size | (simp only [*]; done)))⟩
  by_cases h5 : 12 ≤ f
  · rw [hang_no' (fun h => by omega)]
    go_enter Try.func15, Try.ntmps15
    go_wp2_with (first | (go_at_call 27; refine (validWidth_any _ _).mono ?_; rintro e w' ⟨rfl, rfl⟩) | (go_at_call 28; refine (inRange_any _ _ _ _).mono ?_; rintro e w' ⟨rfl, rfl⟩))
    go_ret2
    exact ⟨none, 0, rfl, ownI_none _ _, by (repeat' (first | (with_reducible exact Below.refl _ _) | (with_reducible assumption) | (with_reducible refine Below.alloc ?_ ?_ _) | (with_reducible refine Below.drew ?_) | (with_reducible refine below_drewN ?_ _) | (with_reducible refine Below.setCell ?_ ?_ _) | (with_reducible refine below_then ?_ ?_ (by with_reducible assumption)) | (with_reducible exact Nat.le_refl _) | go_size | (simp only [*]; done)))⟩
  by_cases h6 : 12 ≤ c
  · rw [hang_no' (fun h => by omega)]
    go_enter Try.func15, Try.ntmps15
    go_wp2_with (first | (go_at_call 27; refine (validWidth_any _ _).mono ?_; rintro e w' ⟨rfl, rfl⟩) | (go_at_call 28; refine (inRange_any _ _ _ _).mono ?_; rintro e w' ⟨rfl, rfl⟩))
    go_ret2
    exact ⟨none, 0, rfl, ownI_none _ _, by (repeat' (first | (with_reducible exact Below.refl _ _) | (with_reducible assumption) | (with_reducible refine Below.alloc ?_ ?_ _) | (with_reducible refine Below.drew ?_) | (with_reducible refine below_drewN ?_ _) | (with_reducible refine Below.setCell ?_ ?_ _) | (with_reducible refine below_then ?_ ?_ (by with_reducible assumption)) | (with_reducible exact Nat.le_refl _) | go_size | (simp only [*]; done)))⟩
  by_cases h7 : 12 ≤ f + c
  · rw [hang_no' (fun h => by omega)]
    go_enter Try.func15, Try.ntmps15
    go_wp2_with (first | (go_at_call 27; refine (validWidth_any _ _).mono ?_; rintro e w' ⟨rfl, rfl⟩) | (go_at_call 28; refine (inRange_any _ _ _ _).mono ?_; rintro e w' ⟨rfl, rfl⟩))
    go_ret2
    exact ⟨none, 0, rfl, ownI_none _ _, by (repeat' (first | (with_reducible exact Below.refl _ _) | (with_reducible assumption) | (with_reducible refine Below.alloc ?_ ?_ _) | (with_reducible refine Below.drew ?_) | (with_reducible refine below_drewN ?_ _) | (with_reducible refine Below.setCell ?_ ?_ _) | (with_reducible refine below_then ?_ ?_ (by with_reducible assumption)) | (with_reducible exact Nat.le_refl _) | go_size | (simp only [*]; done)))⟩
  obtain ⟨fk, rfl⟩ := Int.eq_ofNat_of_zero_le (show 0 ≤ f by omega)
  obtain ⟨ck, rfl⟩ := Int.eq_ofNat_of_zero_le (show 0 ≤ c by omega)
  rw [hang_yes (hangOk_iff.2 ⟨⟨a1, a2⟩, ⟨i1, i2⟩, by omega, by omega, by omega⟩)]
  obtain ⟨i0, hi, hz0, hz1, hz2⟩ := info_parts int_info
  have hfc : fk + ck < 12 := by omega
  go_enter Try.func15, Try.ntmps15
  go_wp2_with (first | (go_at_call 27; refine (validWidth_any _ _).mono ?_; rintro e w' ⟨rfl, rfl⟩) | (go_at_call 28; refine (inRange_any _ _ _ _).mono ?_; rintro e w' ⟨rfl, rfl⟩))
  clear h1 h2 h3 h4 h5 h6 h7
  go_loopg [10, 11] (fk + ck) (fun kk o s wr => ∃ (k g d : Nat), kk = fk + ck - k ∧ k ≤ fk + ck ∧ s = .int .i64 (k : Int) ∧ o = .slice (some ⟨g, 0, none⟩) k d ∧ Hid (OwnI wr w.heap.size (some ⟨g, 0, none⟩) k d ((hangL a (a - i) fk ck).take k)) ∧ Below w.heap.size w wr)
  case atStart => exact ⟨0, w.heap.size, 0, rfl, by omega, rfl, rfl, owns_nil _ _ _ _ _ _ _ (Blk.new _ _ _) (Nat.le_refl _) (by unfold maxLen; omega) rfl, by (repeat' (first | (with_reducible exact Below.refl _ _) | (with_reducible assumption) | (with_reducible refine Below.alloc ?_ ?_ _) | (with_reducible refine Below.drew ?_) | (with_reducible refine below_drewN ?_ _) | (with_reducible refine Below.setCell ?_ ?_ _) | (with_reducible refine below_then ?_ ?_ (by with_reducible assumption)) | (with_reducible exact Nat.le_refl _) | go_size | (simp only [*]; done)))⟩
  case round =>
    obtain ⟨k, g, d, hk', hkl, rfl, rfl, hown, hbel⟩ := hrel
    have HK := Lib.hid hk'; clear hk'
    have hsz := hbel.size
    obtain ⟨v, hv⟩ : ∃ v, (if fk ≤ k ∧ k < fk + ck then a - i else a) = v := ⟨_, rfl⟩
    have HO := Lib.hid (hown.out.alloc (.cells #[.int .i64 v] 3))
    have HB := Lib.hid (Blk.new wr 3 #[.int .i64 v])
    have hb1 := hbel.alloc hsz (.cells #[.int .i64 v] 3)
    have hs1 := hb1.size
    have hnext : k < fk + ck + 1 → (hangL a (a - i) fk ck).take (k + 1) = (hangL a (a - i) fk ck).take k ++ [v] := fun h => tk_snoc' (hangL_len _ _ _ _) h ((hangL_at h).trans hv)
    by_cases hlt : k < fk + ck
    · have hN := Lib.hid (hnext (by omega))
      clear hnext
      have hlt' : (k : Int) < (fk : Int) + (ck : Int) := by omega
      by_cases hf : k < fk
      all_goals
        first
          | rw [if_neg (by omega)] at hv
          | rw [if_pos (by omega)] at hv
        subst hv
        go_wp2_with (at_builtin; (refine wpList_append_one _ rfl _ _ 22 rfl w.heap.size 3 i0 _ 1 8 Try.underlying22 hi hz0 hz1 hz2 rfl (by omega) (some ⟨g, 0, none⟩) k d (inl ((hangL a (a - i) fk ck).take k)) rfl HO.out wr.heap.size (inl [_]) rfl rfl HB.out (inl_one _) (by omega) (by omega) hs1 ?_); intro g4 c4 w4 hown4 hgr4; (have HO4 := Lib.hid hown4); (have hb4 := hb1.grown hgr4 hs1 (fun k hk => (HO.out.lt k hk).1)); clear hown4 hgr4)
        go_roundg (fk + ck - (k + 1))
        case measure => have := HK.out; omega
        case rel => exact ⟨k + 1, g4, c4, rfl, by omega, by go_num, rfl, (by show World.ownsRow _ _ _ _ _ _ _; rw [hN.out, inl_snoc]; exact HO4.out), hb4⟩
    · have ek : k = fk + ck := by omega
      have hN := Lib.hid (hnext (by omega))
      clear hnext
      rw [if_neg (by omega)] at hv
      subst hv
      subst ek
      go_wp2_with (at_builtin; (refine wpList_append_one _ rfl _ _ 22 rfl w.heap.size 3 i0 _ 1 8 Try.underlying22 hi hz0 hz1 hz2 rfl (by omega) (some ⟨g, 0, none⟩) (fk + ck) d (inl ((hangL a (a - i) fk ck).take (fk + ck))) rfl HO.out wr.heap.size (inl [_]) rfl rfl HB.out (inl_one _) (by omega) (by omega) hs1 ?_); intro g4 c4 w4 hown4 hgr4; (have HO4 := Lib.hid hown4); (have hb4 := hb1.grown hgr4 hs1 (fun k hk => (HO.out.lt k hk).1)); clear hown4 hgr4)
      go_ret2
      refine ⟨some ⟨g4, 0, none⟩, c4, ?_, ?_, hb4⟩
      · rw [hangL_len]; rfl
      · have h1 := HO4.out
        have h2 := hN.out
        rw [List.take_of_length_le (by rw [hangL_len]; exact Nat.le_refl _)] at h2
        rw [hangL_len, h2]
        show World.ownsRow _ _ _ _ _ _ _
        rw [inl_snoc]
        exact h1
end Go.Proofs.Ytifeapincbjeeaa
