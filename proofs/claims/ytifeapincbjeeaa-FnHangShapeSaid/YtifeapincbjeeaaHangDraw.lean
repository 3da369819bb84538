/- The laws on shapes with drawn numbers answer true: FnHangPlain, FnHangShape. Conditions: the code is a slice of bytes. -/
import Derived.Test.YtifeapincbjeeaaHangLaw
namespace Go.Proofs.Ytifeapincbjeeaa
open Go.RowKit

theorem someWidth_any (rb p : Nat) (w : World) (h : Rd w rb p) (hp : p ≤ 140737488355328) : Calls Try.prog 31 #[.pointer (some ⟨rb, 0, none⟩)] w (DrawnInt w rb p 3 0 10001) := by
  have hlt := h.lt
  go_enter Try.func31, Try.ntmps31
  go_wp2_with fail
  ((with_reducible refine (pick_any _ _ _ _ h (by omega)).mono ?_); rintro e w1 ⟨x, rfl, hx0, hx1, hr1, ho1⟩)
  have hs1 := ho1.size
  clear hx1
  by_cases x0 : x = 0
  · subst x0
    go_wp2_with fail
    ((with_reducible refine (one_any rb _ w1.heap.size 4 4 (fun i => [0, 10001, 10000, 1].getD i 0) _ (hr1.alloc _) (by omega) (by omega) (by omega) (by omega) (lit_cells [0, 10001, 10000, 1] (Blk.new _ _ _) rfl)).mono ?_); rintro e w2 ⟨v, hv, rfl, hr2, ho2⟩)
    have hv' := lit_bound [0, 10001, 10000, 1] 0 10001 (by decide) (by decide) hv
    clear hv
    go_wp2_with fail
    go_ret
    exact ⟨v, _, rfl, hv'.1, hv'.2, by omega, hr2, only_trans (only_alloc ho1 _) ho2⟩
  · have y0 : (x == 0) = false := by simp; omega
    go_wp2_with fail
    ((with_reducible refine (one_any rb _ w1.heap.size 7 7 (fun i => [12, 15, 20, 25, 30, 40, 18].getD i 0) _ (hr1.alloc _) (by omega) (by omega) (by omega) (by omega) (lit_cells [12, 15, 20, 25, 30, 40, 18] (Blk.new _ _ _) rfl)).mono ?_); rintro e w2 ⟨v, hv, rfl, hr2, ho2⟩)
    have hv' := lit_bound [12, 15, 20, 25, 30, 40, 18] 0 10001 (by decide) (by decide) hv
    clear hv
    go_wp2_with fail
    go_ret
    exact ⟨v, _, rfl, hv'.1, hv'.2, by omega, hr2, only_trans (only_alloc ho1 _) ho2⟩

def FourInts (w : World) (e : Ending) (w' : World) : Prop :=
  ∃ a i f c : Int, e = .returned (.tuple #[.int .i64 a, .int .i64 i, .int .i64 f, .int .i64 c]) ∧ (-1 ≤ f ∧ f ≤ 12) ∧ (-1 ≤ c ∧ c ≤ 11) ∧ Below w.heap.size w w'

set_option maxHeartbeats 1000000 in
theorem DrawHangShape_any (A : Option Addr) (n cap : Nat) (cs : List Int) (w : World) (hc : Code w A n cap cs) :
    Calls Try.prog 19 #[.slice A n cap] w (FourInts w) := by
  obtain ⟨h1, h2, h3, h4, h5⟩ := hc
  have HH := Lib.hid h4; clear h4
  go_enter Try.func19, Try.ntmps19
  go_wp2_with fail
  ((with_reducible refine (newReader_any _ _ _ cs _ h1 h2 h3 HH.out h5).mono ?_); rintro e w1 ⟨rfl, hr1, hb1⟩)
  have hz1 := hb1.size
  go_wp2_with fail
  ((with_reducible refine (someWidth_any _ _ _ hr1 (by omega)).mono ?_); rintro e w2 ⟨a, p2, rfl, _, _, hp2, hr2, ho2⟩)
  have hb2 := hb1.trans (below_of_only ho2 (Nat.le_refl _) hb1.size)
  have hs2 := hb2.size
  have hl2 := hr2.lt
  go_wp2_with fail
  ((with_reducible refine (one_any w.heap.size _ w2.heap.size 6 6 (fun i => [0, 3, 5, 11, 12, -1].getD i 0) _ (hr2.alloc _) (by omega) (by omega) (by omega) (by omega) (lit_cells [0, 3, 5, 11, 12, -1] (Blk.new _ _ _) rfl)).mono ?_); rintro e w3 ⟨i, _, rfl, hr3, ho3⟩)
  have hb3 : Below w.heap.size w w3 := (hb2.alloc (by omega) _).trans (below_of_only ho3 (Nat.le_refl _) (by simp; omega))
  have hs3 := hb3.size
  have hl3 := hr3.lt
  go_wp2_with fail
  ((with_reducible refine (one_any w.heap.size _ w3.heap.size 7 7 (fun i => [0, 1, 2, 3, 11, 12, -1].getD i 0) _ (hr3.alloc _) (by omega) (by omega) (by omega) (by omega) (lit_cells [0, 1, 2, 3, 11, 12, -1] (Blk.new _ _ _) rfl)).mono ?_); rintro e w4 ⟨f, hf, rfl, hr4, ho4⟩)
  have hf' := lit_bound [0, 1, 2, 3, 11, 12, -1] (-1) 12 (by decide) (by decide) hf
  have hb4 : Below w.heap.size w w4 := (hb3.alloc (by omega) _).trans (below_of_only ho4 (Nat.le_refl _) (by simp; omega))
  have hs4 := hb4.size
  have hl4 := hr4.lt
  clear hf
  go_wp2_with fail
  ((with_reducible refine (one_any w.heap.size _ w4.heap.size 6 6 (fun i => [0, 1, 2, 3, 11, -1].getD i 0) _ (hr4.alloc _) (by omega) (by omega) (by omega) (by omega) (lit_cells [0, 1, 2, 3, 11, -1] (Blk.new _ _ _) rfl)).mono ?_); rintro e w5 ⟨c, hcc, rfl, hr5, ho5⟩)
  have hc' := lit_bound [0, 1, 2, 3, 11, -1] (-1) 11 (by decide) (by decide) hcc
  have hb5 : Below w.heap.size w w5 := (hb4.alloc (by omega) _).trans (below_of_only ho5 (Nat.le_refl _) (by simp; omega))
  clear hcc
  go_wp2_with fail
  (first | go_returns | (refine bodyPost_ret (by simp [results, Try.results19, go_sem, *]; try rfl) rfl ?_))
  exact ⟨a, i, f, c, rfl, hf', hc', hb5⟩

theorem hang_both {a i f c : Int} {xs : List Int} {ok : Bool} {n : Nat} (hx : hangF a i f c = (xs, ok)) (hn : xs.length = n) :
    (∀ W, Calls Try.prog 15 #[.int .i64 a, .int .i64 i, .int .i64 f, .int .i64 c] W fun e w' => ∃ (A : Option Addr) (d : Nat), e = .returned (.tuple #[.slice A n d, .bool ok]) ∧ OwnI w' W.heap.size A n d xs ∧ Below W.heap.size W w') ∧
    (∀ W, Calls Try.prog 16 #[.int .i64 a, .int .i64 i, .int .i64 f, .int .i64 c] W fun e w' => ∃ (A : Option Addr) (d : Nat), e = .returned (.tuple #[.slice A n d, .bool ok]) ∧ OwnI w' W.heap.size A n d xs ∧ Below W.heap.size W w') := by
  constructor <;> intro W
  · have := hang_s a i f c W
    rw [hx] at this
    refine this.mono ?_
    rintro e w' ⟨A, d, h1, h2, h3⟩
    rw [hn] at h1 h2
    exact ⟨A, d, h1, h2, h3⟩
  · have := hang_i a i f c W
    rw [hx] at this
    refine this.mono ?_
    rintro e w' ⟨A, d, h1, h2, h3⟩
    rw [hn] at h1 h2
    exact ⟨A, d, h1, h2, h3⟩

set_option maxHeartbeats 2000000 in
theorem law_HangPlain (A : Option Addr) (n cap : Nat) (cs : List Int) (w : World) (hc : Code w A n cap cs) :
    Calls Try.prog 6 #[.slice A n cap] w fun e w' => e = .returned (.bool true) ∧ Below w.heap.size w w' := by
  have hn := hc.1
  unfold maxLen at hn
  by_cases hbig : 1048576 < n
  · go_enter Try.func6, Try.ntmps6
    go_wp2
    go_returns
    exact ⟨rfl, Below.refl _ _⟩
  go_enter Try.func6, Try.ntmps6
  go_wp2_with fail
  ((with_reducible refine (DrawHangShape_any _ _ _ cs _ hc).mono ?_); rintro e w1 ⟨a, i, f, c, rfl, hf, hcc, hb1⟩)
  have hz1 := hb1.size
  obtain ⟨⟨xs, ok⟩, hx⟩ : ∃ r, hangF a i f c = r := ⟨_, rfl⟩
  have hl := hangF_len a i f c
  rw [hx] at hl
  simp only at hl
  obtain ⟨m, hm⟩ : ∃ m, xs.length = m := ⟨_, rfl⟩
  rw [hm] at hl
  obtain ⟨hS, hI⟩ := hang_both hx hm
  have HX := Lib.hid hx
  have HM := Lib.hid hm
  have HS := Lib.hid hS
  have HI := Lib.hid hI
  clear hx hm hS hI
  have hmx : m ≤ maxLen := by unfold maxLen; omega
  go_wp2_with fail
  ((with_reducible refine (HI.out _).mono ?_); rintro e w2 ⟨A2, d2, rfl, ho2, hb2⟩)
  have hz2 := hb2.size
  go_wp2_with fail
  ((with_reducible refine (HS.out _).mono ?_); rintro e w3 ⟨A3, d3, rfl, ho3, hb3⟩)
  have hz3 := hb3.size
  have ho23 := ho2.then_ hb3
  go_wp2_with fail
  ((with_reducible refine (equalInts_same _ _ _ _ _ xs _ hmx ?_ ?_).mono ?_); (exact ho23.row); (exact ho3.row); rintro e w4 ⟨rfl, hb4⟩)
  have hz4 := hb4.size
  have ho24 := ho23.then_ hb4
  have ho34 := ho3.then_ hb4
  have hB4 : Below w.heap.size w w4 := by (repeat' (first | (with_reducible exact Below.refl _ _) | (with_reducible assumption) | (with_reducible refine Below.alloc ?_ ?_ _) | (with_reducible refine Below.drew ?_) | (with_reducible refine below_drewN ?_ _) | (with_reducible refine Below.setCell ?_ ?_ _) | (with_reducible refine below_then ?_ ?_ (by with_reducible assumption)) | (with_reducible exact Nat.le_refl _) | go_size | (simp only [*]; done)))
  cases ok
  · go_wp2_with fail
    ((with_reducible refine (equalInts_same _ _ _ _ _ xs _ hmx ?_ ?_).mono ?_); (exact ho24.row); (exact ho34.row); rintro e w5 ⟨rfl, hb5⟩)
    go_wp2_with fail
    go_returns
    exact ⟨rfl, by (repeat' (first | (with_reducible exact Below.refl _ _) | (with_reducible assumption) | (with_reducible refine Below.alloc ?_ ?_ _) | (with_reducible refine Below.drew ?_) | (with_reducible refine below_drewN ?_ _) | (with_reducible refine Below.setCell ?_ ?_ _) | (with_reducible refine below_then ?_ ?_ (by with_reducible assumption)) | (with_reducible exact Nat.le_refl _) | go_size | (simp only [*]; done)))⟩
  have hok : hangOk a i f c = true := by
    rcases h : hangOk a i f c with _ | _
    · have := HX.out; rw [hang_no h] at this; cases this
    · rfl
  obtain ⟨⟨a1, a2⟩, ⟨i1, i2⟩, ⟨f1, f2⟩, ⟨c1, c2⟩, h5⟩ := hangOk_iff.1 hok
  obtain ⟨fk, rfl⟩ := Int.eq_ofNat_of_zero_le f1
  have hp : hangF a i (fk : Int) 0 = (List.replicate (fk + 1) a, true) := by
    have := hang_yes (a := a) (i := i) (f := fk) (c := 0) (hangOk_iff.2 ⟨⟨a1, a2⟩, ⟨i1, i2⟩, ⟨f1, f2⟩, by omega, by omega⟩)
    rw [hang_plain] at this
    exact this
  obtain ⟨_, hI2⟩ := hang_both hp (n := fk + 1) (by simp)
  have HI2 := Lib.hid hI2
  clear hp hI2 hok HI HS ho2 ho3 ho23
  go_wp2_with fail
  ((with_reducible refine (HI2.out _).mono ?_); rintro e w5 ⟨A5, d5, rfl, ho5, hb5⟩)
  have hB5 : Below w.heap.size w w5 := below_then (Nat.le_refl _) hB4 hb5
  have hr5 := ho5.row
  have hfx : fk + 1 ≤ 13 := by omega
  have HR5 := Lib.hid hr5
  clear hr5 ho5
  go_wp2_with fail
  go_loopg [13] (fk + 1) (fun k i wr => ∃ j : Nat, j ≤ fk + 1 ∧ k = fk + 1 - j ∧ i = .int .i64 j ∧ Below w5.heap.size w5 wr)
  case atStart => exact ⟨0, Nat.zero_le _, rfl, rfl, Below.refl _ _⟩
  case round =>
    obtain ⟨j, hj, hk, rfl, hbel⟩ := hrel
    have HK := Lib.hid hk; clear hk
    have hsz := hbel.size
    by_cases hlt : j < fk + 1
    · obtain ⟨b, off, rfl, hb, hc'⟩ := HR5.out.at1 (by omega)
      have c0 : wr.cell? ⟨b, off + j, none⟩ = _ := (hbel.cell (p := ⟨b, off + j, none⟩) hb).trans (hc' j hlt)
      have e0 : (List.replicate (fk + 1) a).getD j default = a := by
        rw [List.getD_eq_getElem?_getD, List.getElem?_replicate, if_pos hlt]; rfl
      simp only [inc, e0] at c0
      clear hc' e0
      have hlt' : (j : Int) < (fk : Int) + 1 := by omega
      go_wp2_with fail
      go_roundg (fk + 1 - (j + 1))
      case measure => have := HK.out; omega
      case rel => exact ⟨j + 1, by omega, rfl, by go_num, by (repeat' (first | (with_reducible exact Below.refl _ _) | (with_reducible assumption) | (with_reducible refine Below.alloc ?_ ?_ _) | (with_reducible refine Below.drew ?_) | (with_reducible refine below_drewN ?_ _) | (with_reducible refine Below.setCell ?_ ?_ _) | (with_reducible refine below_then ?_ ?_ (by with_reducible assumption)) | (with_reducible exact Nat.le_refl _) | go_size | (simp only [*]; done)))⟩
    · have ej : j = fk + 1 := by omega
      subst ej
      go_wp2_with fail
      go_returns
      exact ⟨rfl, below_then (Nat.le_refl _) hB5 hbel⟩

set_option maxHeartbeats 2000000 in
theorem law_HangShape (A : Option Addr) (n cap : Nat) (cs : List Int) (w : World) (hc : Code w A n cap cs) :
    Calls Try.prog 7 #[.slice A n cap] w fun e w' => e = .returned (.bool true) ∧ Below w.heap.size w w' := by
  have hn := hc.1
  unfold maxLen at hn
  by_cases hbig : 1048576 < n
  · go_enter Try.func7, Try.ntmps7
    go_wp2
    go_returns
    exact ⟨rfl, Below.refl _ _⟩
  go_enter Try.func7, Try.ntmps7
  go_wp2_with fail
  ((with_reducible refine (DrawHangShape_any _ _ _ cs _ hc).mono ?_); rintro e w1 ⟨a, i, f, c, rfl, hf, hcc, hb1⟩)
  have hz1 := hb1.size
  obtain ⟨⟨xs, ok⟩, hx⟩ : ∃ r, hangF a i f c = r := ⟨_, rfl⟩
  have hl := hangF_len a i f c
  rw [hx] at hl
  simp only at hl
  obtain ⟨m, hm⟩ : ∃ m, xs.length = m := ⟨_, rfl⟩
  rw [hm] at hl
  obtain ⟨hS, hI⟩ := hang_both hx hm
  have HX := Lib.hid hx
  have HM := Lib.hid hm
  have HS := Lib.hid hS
  have HI := Lib.hid hI
  clear hx hm hS hI
  have hmx : m ≤ maxLen := by unfold maxLen; omega
  go_wp2_with fail
  ((with_reducible refine (HI.out _).mono ?_); rintro e w2 ⟨A2, d2, rfl, ho2, hb2⟩)
  have hz2 := hb2.size
  go_wp2_with fail
  ((with_reducible refine (HS.out _).mono ?_); rintro e w3 ⟨A3, d3, rfl, ho3, hb3⟩)
  have hz3 := hb3.size
  have ho23 := ho2.then_ hb3
  go_wp2_with fail
  ((with_reducible refine (equalInts_same _ _ _ _ _ xs _ hmx ?_ ?_).mono ?_); (exact ho23.row); (exact ho3.row); rintro e w4 ⟨rfl, hb4⟩)
  have hz4 := hb4.size
  have ho24 := ho23.then_ hb4
  have ho34 := ho3.then_ hb4
  have hB4 : Below w.heap.size w w4 := by (repeat' (first | (with_reducible exact Below.refl _ _) | (with_reducible assumption) | (with_reducible refine Below.alloc ?_ ?_ _) | (with_reducible refine Below.drew ?_) | (with_reducible refine below_drewN ?_ _) | (with_reducible refine Below.setCell ?_ ?_ _) | (with_reducible refine below_then ?_ ?_ (by with_reducible assumption)) | (with_reducible exact Nat.le_refl _) | go_size | (simp only [*]; done)))
  cases ok
  · go_wp2_with fail
    ((with_reducible refine (equalInts_same _ _ _ _ _ xs _ hmx ?_ ?_).mono ?_); (exact ho24.row); (exact ho34.row); rintro e w5 ⟨rfl, hb5⟩)
    go_wp2_with fail
    go_returns
    exact ⟨rfl, by (repeat' (first | (with_reducible exact Below.refl _ _) | (with_reducible assumption) | (with_reducible refine Below.alloc ?_ ?_ _) | (with_reducible refine Below.drew ?_) | (with_reducible refine below_drewN ?_ _) | (with_reducible refine Below.setCell ?_ ?_ _) | (with_reducible refine below_then ?_ ?_ (by with_reducible assumption)) | (with_reducible exact Nat.le_refl _) | go_size | (simp only [*]; done)))⟩
  have hok : hangOk a i f c = true := by
    rcases h : hangOk a i f c with _ | _
    · have := HX.out; rw [hang_no h] at this; cases this
    · rfl
  obtain ⟨⟨a1, a2⟩, ⟨i1, i2⟩, ⟨f1, f2⟩, ⟨c1, c2⟩, h5⟩ := hangOk_iff.1 hok
  obtain ⟨fk, rfl⟩ := Int.eq_ofNat_of_zero_le f1
  obtain ⟨ck, rfl⟩ := Int.eq_ofNat_of_zero_le c1
  have hxs : xs = hangL a (a - i) fk ck := by
    have := HX.out
    rw [hang_yes hok] at this
    injection this with h _
    exact h.symm
  have hsh : shapeOk xs = true := hxs ▸ hang_shape hok
  have hmk : m = fk + ck + 1 := by rw [← HM.out, hxs, hangL_len]
  have hw : ∀ k : Nat, wol xs (k : Int) = if fk ≤ k ∧ k < fk + ck then a - i else a := fun k => by rw [wol_yes hsh, hxs, hang_wof]
  have HW := Lib.hid hw
  have HR4 := Lib.hid ho24.row
  clear hxs hsh hw hok HI HS ho2 ho3 ho23 ho24 ho34
  subst hmk
  go_wp2_with fail
  go_loopg [11] (fk + ck + 3) (fun k i wr => ∃ j : Nat, j ≤ fk + ck + 3 ∧ k = fk + ck + 3 - j ∧ i = .int .i64 j ∧ Below w4.heap.size w4 wr)
  case atStart => exact ⟨0, Nat.zero_le _, rfl, rfl, Below.refl _ _⟩
  case round =>
    obtain ⟨j, hj, hk, rfl, hbel⟩ := hrel
    have HK := Lib.hid hk; clear hk
    have hsz := hbel.size
    have hrow := (HR4.out.below hbel).more hsz
    by_cases hlt : j < fk + ck + 3
    · have hlt' : (j : Int) < (fk : Int) + (ck : Int) + 3 := by omega
      obtain ⟨v, hv⟩ : ∃ v, wol xs (j : Int) = v := ⟨_, rfl⟩
      have hv2 := HW.out j
      rw [hv] at hv2
      have HV := Lib.hid hv
      clear hv
      have hcase : (fk ≤ j ∧ j < fk + ck) ∨ (j < fk ∧ j < fk + ck) ∨ (fk ≤ j ∧ fk + ck ≤ j) := by omega
      rcases hcase with ⟨h1, h2⟩ | ⟨h1, h2⟩ | ⟨h1, h2⟩
      all_goals
        first
          | rw [if_pos (by omega)] at hv2
          | rw [if_neg (by omega)] at hv2
        subst hv2
        go_wp2_with fail
        ((with_reducible refine (widthOfLine_i _ _ _ _ xs _ HM.out hmx (by omega) ?_).mono ?_); (exact hrow); rintro e w5 ⟨rfl, hb5⟩)
        rw [HV.out]
        go_wp2_with fail
        go_roundg (fk + ck + 3 - (j + 1))
        case measure => have := HK.out; omega
        case rel => exact ⟨j + 1, by omega, rfl, by go_num, by (repeat' (first | (with_reducible exact Below.refl _ _) | (with_reducible assumption) | (with_reducible refine Below.alloc ?_ ?_ _) | (with_reducible refine Below.drew ?_) | (with_reducible refine below_drewN ?_ _) | (with_reducible refine Below.setCell ?_ ?_ _) | (with_reducible refine below_then ?_ ?_ (by with_reducible assumption)) | (with_reducible exact Nat.le_refl _) | go_size | (simp only [*]; done)))⟩
    · have ej : j = fk + ck + 3 := by omega
      subst ej
      go_wp2_with fail
      go_returns
      exact ⟨rfl, below_then (Nat.le_refl _) hB4 hbel⟩
end Go.Proofs.Ytifeapincbjeeaa
