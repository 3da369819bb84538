/- The generators of boxes return some boxes, in memory of their own; they write into the reader's own block alone. Conditions: the reader has yielded fewer than 2^49 numbers. -/
import Derived.Test.YtdbjjfjagalhbaaReader
import Derived.Test.YtdbjjfjagalhbaaBoxList
import Derived.Test.YtdbjjfjagalhbaaAppend
namespace Go.Proofs.Ytdbjjfjagalhbaa
open Go.RowKit

/-- What a call leaves that draws a box, by at most K numbers of the reader. -/
def DrawnBox (w : World) (rb p K : Nat) (e : Ending) (w' : World) : Prop :=
  ∃ (a b c : Int) (p' : Nat), e = .returned (.agg #[.int .i64 a, .int .i64 b, .int .i64 c]) ∧ p' ≤ p + K ∧ Rd w' rb p' ∧ w.grownBy w' (some rb)

theorem randomBox_any (rb p : Nat) (w : World) (h : Rd w rb p) (hp : p ≤ 562949953421312) : Calls Try.prog 49 #[.pointer (some ⟨rb, 0, none⟩)] w (DrawnBox w rb p 3) := by
  have hlt := h.lt
  go_enter Try.func49, Try.ntmps49
  go_wp2_with fail
  ((with_reducible refine (pick_any _ _ _ _ (h.alloc _) (by omega)).mono ?_); rintro e w1 ⟨x, rfl, _, _, hr1, ho1⟩)
  have hb1 := (Blk.new w 25 #[.int .i64 0, .int .i64 0, .int .i64 0]).grown ho1 (by simp; omega)
  go_wp2_with fail
  ((with_reducible refine (pick_any _ _ _ _ hr1 (by omega)).mono ?_); rintro e w2 ⟨y, rfl, _, _, hr2, ho2⟩)
  have hb2 := hb1.grown ho2 (by simp; omega)
  go_wp2_with fail
  ((with_reducible refine (pick_any _ _ _ _ hr2 (by omega)).mono ?_); rintro e w3 ⟨z, rfl, _, _, hr3, ho3⟩)
  have hb3 := hb2.grown ho3 (by simp; omega)
  clear hb1 hb2
  have tlt := hb3.lt
  have tc0 := hb3.cell 0; have tf0 := hb3.frozen 0
  have tc1 := hb3.cell 1; have tf1 := hb3.frozen 1
  have tc2 := hb3.cell 2; have tf2 := hb3.frozen 2
  simp only [List.getElem?_toArray, List.getElem?_cons_zero, List.getElem?_cons_succ] at tc0 tc1 tc2
  go_wp2
  (first | go_returns | (refine bodyPost_ret (by simp [results, Try.results49, go_sem, *]; try rfl) rfl ?_))
  exact ⟨x, y, z, p + 1 + 1 + 1, rfl, by omega, ((hr3.setCell (by simp; omega) _).setCell (by simp; omega) _).setCell (by simp; omega) _, by (repeat' (first | (with_reducible exact only_refl _ _) | (with_reducible assumption) | (with_reducible refine only_alloc ?_ _) | (with_reducible refine only_drew ?_) | (with_reducible refine only_drewN ?_ _) | (with_reducible refine only_setCell ?_ ?_ _) | (with_reducible refine only_trans ?_ (by with_reducible assumption)) | (with_reducible exact Or.inl rfl) | (refine Or.inr ?_; first | (simp; done) | omega | (simp; omega)) | omega))⟩

set_option maxHeartbeats 1000000 in
theorem anyBox_any (rb p : Nat) (w : World) (h : Rd w rb p) (hp : p ≤ 281474976710656) : Calls Try.prog 41 #[.pointer (some ⟨rb, 0, none⟩)] w (DrawnBox w rb p 5) := by
  have hlt := h.lt
  go_enter Try.func41, Try.ntmps41
  go_wp2_with fail
  ((with_reducible refine (randomBox_any _ _ _ (h.alloc _) (by omega)).mono ?_); rintro e w1 ⟨a, b, c, p1, rfl, hp1, hr1, ho1⟩)
  have hb1 := (Blk.new w 25 #[.int .i64 0, .int .i64 0, .int .i64 0]).grown ho1 (by simp; omega)
  have hs1 := ho1.size
  simp only [World.size_alloc] at hs1
  go_wp2_with fail
  ((with_reducible refine (pick_any _ _ _ _ (hr1.alloc _) (by omega)).mono ?_); rintro e w2 ⟨x, rfl, hx0, hx1, hr2, ho2⟩)
  have hb2 := (hb1.alloc (.cells #[.int .i64 a, .int .i64 b, .int .i64 c] 25)).grown ho2 (by simp; omega)
  have hd2 := (Blk.new w1 25 #[.int .i64 a, .int .i64 b, .int .i64 c]).grown ho2 (by simp; omega)
  have hs2 := ho2.size
  simp only [World.size_alloc] at hs2
  have ho : w.grownBy w2 (some rb) := by (repeat' (first | (with_reducible exact only_refl _ _) | (with_reducible assumption) | (with_reducible refine only_alloc ?_ _) | (with_reducible refine only_drew ?_) | (with_reducible refine only_drewN ?_ _) | (with_reducible refine only_setCell ?_ ?_ _) | (with_reducible refine only_trans ?_ (by with_reducible assumption)) | (with_reducible exact Or.inl rfl) | (refine Or.inr ?_; first | (simp; done) | omega | (simp; omega)) | omega))
  clear hb1 ho1 ho2
  by_cases x0 : x = 0
  · subst x0
    go_wp2_with fail
    ((with_reducible refine (one_any rb _ w2.heap.size 3 3 (fun i => [-1, 10001, 10000].getD i 0) _ (hr2.alloc _) (by omega) (by omega) (by omega) (by omega) (lit_cells [-1, 10001, 10000] (Blk.new _ _ _) rfl)).mono ?_); rintro e w3 ⟨v, _, rfl, hr3, ho3⟩)
    have hb3 := (hb2.alloc (.cells #[.int .i64 (-1), .int .i64 10001, .int .i64 10000] 3)).grown ho3 (by simp; omega)
    have hd3 := (hd2.alloc (.cells #[.int .i64 (-1), .int .i64 10001, .int .i64 10000] 3)).grown ho3 (by simp; omega)
    have hs3 := ho3.size
    simp only [World.size_alloc] at hs3
    clear hb2 hd2
    have tlt := hb3.lt
    have tc0 := hb3.cell 0; have tf0 := hb3.frozen 0
    have tc1 := hb3.cell 1; have tf1 := hb3.frozen 1
    have tc2 := hb3.cell 2; have tf2 := hb3.frozen 2
    simp only [List.getElem?_toArray, List.getElem?_cons_zero, List.getElem?_cons_succ] at tc0 tc1 tc2
    have ult := hd3.lt
    have uc0 := hd3.cell 0; have uf0 := hd3.frozen 0
    have uc1 := hd3.cell 1; have uf1 := hd3.frozen 1
    have uc2 := hd3.cell 2; have uf2 := hd3.frozen 2
    simp only [List.getElem?_toArray, List.getElem?_cons_zero, List.getElem?_cons_succ] at uc0 uc1 uc2
    go_wp2
    (first | go_returns | (refine bodyPost_ret (by simp [results, Try.results41, go_sem, *]; try rfl) rfl ?_))
    refine ⟨v, b, c, p1 + 1 + 1, rfl, by omega, (((hr3.setCell (by simp; omega) _).setCell (by simp; omega) _).setCell (by simp; omega) _).setCell (by simp; omega) _, by (repeat' (first | (with_reducible exact only_refl _ _) | (with_reducible assumption) | (with_reducible refine only_alloc ?_ _) | (with_reducible refine only_drew ?_) | (with_reducible refine only_drewN ?_ _) | (with_reducible refine only_setCell ?_ ?_ _) | (with_reducible refine only_trans ?_ (by with_reducible assumption)) | (with_reducible exact Or.inl rfl) | (refine Or.inr ?_; first | (simp; done) | omega | (simp; omega)) | omega))⟩
  by_cases x1 : x = 1
  · subst x1
    go_wp2_with fail
    ((with_reducible refine (one_any rb _ w2.heap.size 3 3 (fun i => [-1, 10001, 10000].getD i 0) _ (hr2.alloc _) (by omega) (by omega) (by omega) (by omega) (lit_cells [-1, 10001, 10000] (Blk.new _ _ _) rfl)).mono ?_); rintro e w3 ⟨v, _, rfl, hr3, ho3⟩)
    have hb3 := (hb2.alloc (.cells #[.int .i64 (-1), .int .i64 10001, .int .i64 10000] 3)).grown ho3 (by simp; omega)
    have hd3 := (hd2.alloc (.cells #[.int .i64 (-1), .int .i64 10001, .int .i64 10000] 3)).grown ho3 (by simp; omega)
    have hs3 := ho3.size
    simp only [World.size_alloc] at hs3
    clear hb2 hd2
    have tlt := hb3.lt
    have tc0 := hb3.cell 0; have tf0 := hb3.frozen 0
    have tc1 := hb3.cell 1; have tf1 := hb3.frozen 1
    have tc2 := hb3.cell 2; have tf2 := hb3.frozen 2
    simp only [List.getElem?_toArray, List.getElem?_cons_zero, List.getElem?_cons_succ] at tc0 tc1 tc2
    have ult := hd3.lt
    have uc0 := hd3.cell 0; have uf0 := hd3.frozen 0
    have uc1 := hd3.cell 1; have uf1 := hd3.frozen 1
    have uc2 := hd3.cell 2; have uf2 := hd3.frozen 2
    simp only [List.getElem?_toArray, List.getElem?_cons_zero, List.getElem?_cons_succ] at uc0 uc1 uc2
    go_wp2
    (first | go_returns | (refine bodyPost_ret (by simp [results, Try.results41, go_sem, *]; try rfl) rfl ?_))
    refine ⟨a, b, v, p1 + 1 + 1, rfl, by omega, (((hr3.setCell (by simp; omega) _).setCell (by simp; omega) _).setCell (by simp; omega) _).setCell (by simp; omega) _, by (repeat' (first | (with_reducible exact only_refl _ _) | (with_reducible assumption) | (with_reducible refine only_alloc ?_ _) | (with_reducible refine only_drew ?_) | (with_reducible refine only_drewN ?_ _) | (with_reducible refine only_setCell ?_ ?_ _) | (with_reducible refine only_trans ?_ (by with_reducible assumption)) | (with_reducible exact Or.inl rfl) | (refine Or.inr ?_; first | (simp; done) | omega | (simp; omega)) | omega))⟩
  by_cases x2 : x = 2
  · subst x2
    go_wp2_with fail
    ((with_reducible refine (one_any rb _ w2.heap.size 3 3 (fun i => [-1, 10001, 10000].getD i 0) _ (hr2.alloc _) (by omega) (by omega) (by omega) (by omega) (lit_cells [-1, 10001, 10000] (Blk.new _ _ _) rfl)).mono ?_); rintro e w3 ⟨v, _, rfl, hr3, ho3⟩)
    have hb3 := (hb2.alloc (.cells #[.int .i64 (-1), .int .i64 10001, .int .i64 10000] 3)).grown ho3 (by simp; omega)
    have hd3 := (hd2.alloc (.cells #[.int .i64 (-1), .int .i64 10001, .int .i64 10000] 3)).grown ho3 (by simp; omega)
    have hs3 := ho3.size
    simp only [World.size_alloc] at hs3
    clear hb2 hd2
    have tlt := hb3.lt
    have tc0 := hb3.cell 0; have tf0 := hb3.frozen 0
    have tc1 := hb3.cell 1; have tf1 := hb3.frozen 1
    have tc2 := hb3.cell 2; have tf2 := hb3.frozen 2
    simp only [List.getElem?_toArray, List.getElem?_cons_zero, List.getElem?_cons_succ] at tc0 tc1 tc2
    have ult := hd3.lt
    have uc0 := hd3.cell 0; have uf0 := hd3.frozen 0
    have uc1 := hd3.cell 1; have uf1 := hd3.frozen 1
    have uc2 := hd3.cell 2; have uf2 := hd3.frozen 2
    simp only [List.getElem?_toArray, List.getElem?_cons_zero, List.getElem?_cons_succ] at uc0 uc1 uc2
    go_wp2
    (first | go_returns | (refine bodyPost_ret (by simp [results, Try.results41, go_sem, *]; try rfl) rfl ?_))
    refine ⟨a, v, c, p1 + 1 + 1, rfl, by omega, (((hr3.setCell (by simp; omega) _).setCell (by simp; omega) _).setCell (by simp; omega) _).setCell (by simp; omega) _, by (repeat' (first | (with_reducible exact only_refl _ _) | (with_reducible assumption) | (with_reducible refine only_alloc ?_ _) | (with_reducible refine only_drew ?_) | (with_reducible refine only_drewN ?_ _) | (with_reducible refine only_setCell ?_ ?_ _) | (with_reducible refine only_trans ?_ (by with_reducible assumption)) | (with_reducible exact Or.inl rfl) | (refine Or.inr ?_; first | (simp; done) | omega | (simp; omega)) | omega))⟩
  · have y0 : (x == 0) = false := by simp; omega
    have y1 : (x == 1) = false := by simp; omega
    have y2 : (x == 2) = false := by simp; omega
    have tlt := hb2.lt
    have tc0 := hb2.cell 0; have tf0 := hb2.frozen 0
    have tc1 := hb2.cell 1; have tf1 := hb2.frozen 1
    have tc2 := hb2.cell 2; have tf2 := hb2.frozen 2
    simp only [List.getElem?_toArray, List.getElem?_cons_zero, List.getElem?_cons_succ] at tc0 tc1 tc2
    have ult := hd2.lt
    have uc0 := hd2.cell 0; have uf0 := hd2.frozen 0
    have uc1 := hd2.cell 1; have uf1 := hd2.frozen 1
    have uc2 := hd2.cell 2; have uf2 := hd2.frozen 2
    simp only [List.getElem?_toArray, List.getElem?_cons_zero, List.getElem?_cons_succ] at uc0 uc1 uc2
    go_wp2
    (first | go_returns | (refine bodyPost_ret (by simp [results, Try.results41, go_sem, *]; try rfl) rfl ?_))
    refine ⟨a, b, c, p1 + 1, rfl, by omega, ((hr2.setCell (by simp; omega) _).setCell (by simp; omega) _).setCell (by simp; omega) _, by (repeat' (first | (with_reducible exact only_refl _ _) | (with_reducible assumption) | (with_reducible refine only_alloc ?_ _) | (with_reducible refine only_drew ?_) | (with_reducible refine only_drewN ?_ _) | (with_reducible refine only_setCell ?_ ?_ _) | (with_reducible refine only_trans ?_ (by with_reducible assumption)) | (with_reducible exact Or.inl rfl) | (refine Or.inr ?_; first | (simp; done) | omega | (simp; omega)) | omega))⟩

def bxl (b : Bx) : List Value := [.int .i64 b.w, .int .i64 b.h, .int .i64 b.d]
theorem bxl_set3 (y : Bx) (ys : List Bx) (a b d : Int) : ((((y :: ys).flatMap bxl).set 0 (.int .i64 a)).set 1 (.int .i64 b)).set 2 (.int .i64 d) = ((⟨a, b, d⟩ : Bx) :: ys).flatMap bxl := by simp [bxl]
theorem bxl_one (b : Bx) : ∀ u ∈ bxl b, u.oneCell' = true := by intro u hu; simp [bxl] at hu; rcases hu with rfl | rfl | rfl <;> rfl
theorem bxl_len (b : Bx) : (bxl b).length = 3 := rfl
theorem bxl_at {xs : List Bx} : ∀ i q, i < xs.length → q < 3 → (xs.flatMap bxl)[i * 3 + q]? = some (bxc xs i q) := by
  intro i q hi hq
  rw [flat_at bxl 3 bxl_len xs i q hi hq]
  match q, hq with
  | 0, _ => rfl
  | 1, _ => rfl
  | 2, _ => rfl
theorem box_info' : (Try.prog.info? 25).map (fun i => (i.zero, i.size, i.bytes)) = some (some (.agg #[.int .i64 0, .int .i64 0, .int .i64 0]), 3, 24) := by kernel_rfl

/-- What a call leaves that draws a slice of boxes. -/
def DrawnBoxes (w : World) (rb p K : Nat) (e : Ending) (w' : World) : Prop :=
  ∃ (A : Option Addr) (n c : Nat) (xs : List Bx) (p' : Nat), e = .returned (.slice A n c) ∧ xs.length = n ∧ n ≤ 21 ∧ (n ≤ c ∧ c ≤ maxLen ∧ ∃ g, A = some ⟨g, 0, none⟩) ∧ Row w' w'.heap.size 3 A n (bxc xs) ∧ (∀ x, A = some x → rb < x.block) ∧ p' ≤ p + K ∧ Rd w' rb p' ∧ w.grownBy w' (some rb)

set_option maxHeartbeats 1000000 in
theorem anyBoxes_any (rb p : Nat) (w : World) (h : Rd w rb p) (hp : p ≤ 140737488355328) : Calls Try.prog 47 #[.pointer (some ⟨rb, 0, none⟩)] w (DrawnBoxes w rb p 100) := by
  obtain ⟨i0, hi, hz0, hz1, hz2⟩ := info_parts box_info'
  have hlt := h.lt
  go_enter Try.func47, Try.ntmps47
  go_wp2_with fail
  ((with_reducible refine (one_any rb _ (w.heap.size + 1) 6 6 (fun i => [0, 1, 2, 3, 5, 21].getD i 0) _ ((h.alloc _).alloc _) (by omega) (by omega) (by omega) (by omega) (lit_cells [0, 1, 2, 3, 5, 21] (Blk.new_at _ _ _ _ (by simp)) rfl)).mono ?_); rintro e w1 ⟨v, hv, rfl, hr1, ho1⟩)
  obtain ⟨hv1, hv2⟩ := lit_bound [0, 1, 2, 3, 5, 21] 0 21 (by decide) (by decide) hv
  clear hv
  obtain ⟨m0, rfl⟩ := Int.eq_ofNat_of_zero_le hv1
  have hE := ((Blk.new w 25 #[]).alloc (.cells #[.int .i64 0, .int .i64 1, .int .i64 2, .int .i64 3, .int .i64 5, .int .i64 21] 3)).grown ho1 (by simp; omega)
  have hown1 := Lib.hid (owns_nil w1 w.heap.size 25 3 0 _ _ hE (Nat.le_refl _) (by unfold maxLen; omega) rfl)
  have hO1 : w.grownBy w1 (some rb) := by (repeat' (first | (with_reducible exact only_refl _ _) | (with_reducible assumption) | (with_reducible refine only_alloc ?_ _) | (with_reducible refine only_drew ?_) | (with_reducible refine only_drewN ?_ _) | (with_reducible refine only_setCell ?_ ?_ _) | (with_reducible refine only_trans ?_ (by with_reducible assumption)) | (with_reducible exact Or.inl rfl) | (refine Or.inr ?_; first | (simp; done) | omega | (simp; omega)) | omega))
  have hm0 : m0 ≤ 21 := by omega
  clear hE ho1
  go_wp2_with fail
  go_loopg [3, 4] m0 (fun k o cnt wr => ∃ (m g c q p' : Nat) (xs : List Bx), o = .slice (some ⟨g, 0, none⟩) q c ∧ cnt = .int .i64 (m : Int) ∧ k = m ∧ m + q ≤ 21 ∧ Hid (xs.length = q) ∧ Hid (wr.ownsRow w.heap.size 25 3 (.slice (some ⟨g, 0, none⟩) q c) q (xs.flatMap bxl)) ∧ p' + 3 * m ≤ p + 64 ∧ Rd wr rb p' ∧ w.grownBy wr (some rb))
  case atStart => exact ⟨m0, w.heap.size, 0, 0, p + 1, [], rfl, rfl, rfl, by omega, rfl, hown1.out, by omega, hr1, hO1⟩
  case round =>
    obtain ⟨m, g, c, q, p', xs, rfl, rfl, hk, hmq, hxl, hown, hp', hrd, hO⟩ := hrel
    have HK := Lib.hid hk; clear hk
    have hgb := (hown.out.lt g rfl).1
    by_cases hm : 0 < m
    · go_wp2_with fail
      ((with_reducible refine (randomBox_any _ _ _ hrd (by omega)).mono ?_); rintro e w2 ⟨a, b, d, p2, rfl, hp2, hr2, ho2⟩)
      have HO := Lib.hid ((hown.out.kept ho2 (.inr (by simp [Value.ownBlock]; omega))).alloc (.cells #[.int .i64 a, .int .i64 b, .int .i64 d] 25))
      have HB := Lib.hid (Blk.new w2 25 #[.int .i64 a, .int .i64 b, .int .i64 d])
      have hs := ho2.size
      have hs0 := hO.size
      have HS2 := Lib.hid (show w.heap.size ≤ (w2.alloc (.cells #[.int .i64 a, .int .i64 b, .int .i64 d] 25)).heap.size by simp; omega)
      go_wp2_with (at_builtin; (refine wpList_append_one _ rfl (.tmp 13) (.tmp 16) 43 rfl w.heap.size 25 i0 _ 3 24 Try.underlying43 hi hz0 hz1 hz2 rfl (by omega) (some ⟨g, 0, none⟩) q c (xs.flatMap bxl) rfl HO.out w2.heap.size (bxl ⟨a, b, d⟩) rfl rfl HB.out (bxl_one _) (by omega) (by omega) HS2.out ?_); intro g' c' w3 hown3 hgr3)
      go_wp2_with fail
      go_roundg (m - 1)
      case measure => have := HK.out; omega
      case rel =>
        refine ⟨m - 1, g', c', q + 1, p2, xs ++ [⟨a, b, d⟩], rfl, by go_num, rfl, by omega, ?_, ?_, by omega, (hr2.alloc _).own hgr3 (by intro x hx; cases hx; simp; omega), only_own (only_alloc (only_trans hO ho2) _) hgr3 (by intro x hx; cases hx; simp; omega)⟩
        · show (xs ++ [_]).length = q + 1
          rw [List.length_append, hxl.out]; rfl
        · show World.ownsRow _ _ _ _ _ _ _
          rw [flat_snoc]; exact hown3
    · by_cases hq : 0 < q
      · go_wp2_with fail
        ((with_reducible refine (pick_any _ _ _ _ hrd (by omega)).mono ?_); rintro e w2 ⟨x, rfl, hx0, hx1, hr2, ho2⟩)
        have ho2' := hown.out.kept ho2 (.inr (by simp [Value.ownBlock]; omega))
        have HO2 := Lib.hid ho2'
        have hO2 := only_trans hO ho2
        have hs0 := hO2.size
        clear ho2'
        by_cases hx : x = 0
        · subst hx
          go_wp2_with fail
          ((with_reducible refine (anyBox_any _ _ _ hr2 (by omega)).mono ?_); rintro e w3 ⟨a, b, d, p3, rfl, hp3, hr3, ho3⟩)
          have ho3' := HO2.out.kept ho3 (.inr (by simp [Value.ownBlock]; omega))
          have hO3 := only_trans hO2 ho3
          have hlg := (ho3'.lt g rfl).2
          obtain ⟨y, ys, rfl⟩ : ∃ y ys, xs = y :: ys := by
            cases xs with
            | nil => have := hxl.out; simp at this; omega
            | cons y ys => exact ⟨y, ys, rfl⟩
          have k0 := ho3'.cellAt 0 (by omega)
          have k1 := ho3'.cellAt 1 (by omega)
          have k2 := ho3'.cellAt 2 (by omega)
          have l0 := ho3'.frozenAt 0
          have l1 := ho3'.frozenAt 1
          have l2 := ho3'.frozenAt 2
          simp [bxl] at k0 k1 k2
          have HO3 := Lib.hid ho3'
          clear ho3' HO2 hown
          have hq' : (0 : Int) < (q : Int) := by omega
          go_wp2_with fail
          go_ret
          refine ⟨_, q, c, ⟨a, b, d⟩ :: ys, p3, rfl, by simpa using hxl.out, by omega, own_cap HO3.out, Row.owned (((HO3.out.stored 0 _).1.stored 1 _).1.stored 2 _).1 (fun i k hi hk => ?_), (by intro x hx; cases hx; simp; omega), by omega, ((hr3.setCell (by simp; omega) _).setCell (by simp; omega) _).setCell (by simp; omega) _, by (repeat' (first | (with_reducible exact only_refl _ _) | (with_reducible assumption) | (with_reducible refine only_alloc ?_ _) | (with_reducible refine only_drew ?_) | (with_reducible refine only_drewN ?_ _) | (with_reducible refine only_setCell ?_ ?_ _) | (with_reducible refine only_trans ?_ (by with_reducible assumption)) | (with_reducible exact Or.inl rfl) | (refine Or.inr ?_; first | (simp; done) | omega | (simp; omega)) | omega))⟩
          rw [bxl_set3]
          exact bxl_at i k (by have := hxl.out; simp at this ⊢; omega) hk
        · have hx' : (x == 0) = false := by simp; omega
          go_wp2_with fail
          go_ret
          exact ⟨_, q, c, xs, p' + 1, rfl, hxl.out, by omega, own_cap HO2.out, Row.owned HO2.out (fun i k hi hk => bxl_at i k (by rw [hxl.out]; exact hi) hk), (by intro x hx; cases hx; simp; omega), by omega, hr2, hO2⟩
      · go_wp2_with fail
        go_ret
        exact ⟨_, q, c, xs, p', rfl, hxl.out, by omega, own_cap hown.out, Row.owned hown.out (fun i k hi hk => bxl_at i k (by rw [hxl.out]; exact hi) hk), (by intro x hx; cases hx; simp; omega), by omega, hrd, hO⟩
end Go.Proofs.Ytdbjjfjagalhbaa
