/- The generators of figures and of spaces. Conditions: the reader has yielded fewer than 2^46 numbers. -/
import Derived.Test.YtlgbeoghjjjlmaaFigS
import Derived.Test.YtlgbeoghjjjlmaaDrawInts
import Derived.OneCell
namespace Go.Proofs.Ytlgbeoghjjjlmaa
open Go.RowKit

def fgl (b : Fg) : List Value := [.int .i64 b.a, .int .i64 b.b]
theorem fgl_one (b : Fg) : ∀ u ∈ fgl b, u.oneCell' = true := by intro u hu; simp [fgl] at hu; rcases hu with rfl | rfl <;> rfl
theorem fgl_len (b : Fg) : (fgl b).length = 2 := rfl
theorem fgl_at {xs : List Fg} : ∀ i q, i < xs.length → q < 2 → (xs.flatMap fgl)[i * 2 + q]? = some (fgc xs i q) := by
  intro i q hi hq
  rw [flat_at fgl 2 fgl_len xs i q hi hq]
  match q, hq with
  | 0, _ => rfl
  | 1, _ => rfl
theorem fgl_set0 (y : Fg) (ys : List Fg) (a : Int) : ((y :: ys).flatMap fgl).set 0 (.int .i64 a) = ((⟨a, y.b⟩ : Fg) :: ys).flatMap fgl := by simp [fgl]
theorem fgl_set1 (y : Fg) (ys : List Fg) (c : Int) : ((y :: ys).flatMap fgl).set 1 (.int .i64 c) = ((⟨y.a, c⟩ : Fg) :: ys).flatMap fgl := by simp [fgl]

/-- What a call leaves that draws a slice of figures. -/
def DrawnFigs (w : World) (rb p K : Nat) (e : Ending) (w' : World) : Prop :=
  ∃ (g n c : Nat) (xs : List Fg) (p' : Nat), e = .returned (.slice (some ⟨g, 0, none⟩) n c) ∧ xs.length = n ∧ n ≤ 6 ∧ w'.ownsRow w.heap.size 68 2 (.slice (some ⟨g, 0, none⟩) n c) n (xs.flatMap fgl) ∧ p' ≤ p + K ∧ Rd w' rb p' ∧ w.grownBy w' (some rb)

set_option maxHeartbeats 4000000 in
theorem randomFigures_any (rb p : Nat) (w : World) (h : Rd w rb p) (hp : p ≤ 140737488355328) : Calls Try.prog 65 #[.pointer (some ⟨rb, 0, none⟩)] w (DrawnFigs w rb p 40) := by
  obtain ⟨j0, ji, jz0, jz1, jz2⟩ := info_parts fig_info
  have hlt := h.lt
  go_enter Try.func65, Try.ntmps65
  go_wp2_with fail
  ((with_reducible refine (pick_any rb _ _ _ (h.alloc _) (by omega)).mono ?_); rintro e w1 ⟨v, rfl, hv1, hv2, hr1, ho1⟩)
  have hv3 := hv2 (by omega)
  clear hv2
  obtain ⟨m0, rfl⟩ := Int.eq_ofNat_of_zero_le hv1
  have hown1 := Lib.hid (owns_nil w1 w.heap.size 68 2 0 _ _ ((Blk.new w 68 #[]).grown ho1 (by simp; omega)) (Nat.le_refl _) (by unfold maxLen; omega) rfl)
  have hO1 : w.grownBy w1 (some rb) := by (repeat' (first | (with_reducible exact only_refl _ _) | (with_reducible assumption) | (with_reducible refine only_alloc ?_ _) | (with_reducible refine only_drew ?_) | (with_reducible refine only_drewN ?_ _) | (with_reducible refine only_setCell ?_ ?_ _) | (with_reducible refine only_trans ?_ (by with_reducible assumption)) | (with_reducible exact Or.inl rfl) | (refine Or.inr ?_; first | (simp; done) | omega | (simp; omega)) | omega))
  have hs1 := hO1.size
  clear ho1
  go_wp2_with fail
  go_loopg [3, 4, 5] m0 (fun k o pg cnt wr => ∃ (m g c q p' : Nat) (a : Int) (xs : List Fg), o = .slice (some ⟨g, 0, none⟩) q c ∧ pg = .int .i64 a ∧ 0 ≤ a ∧ a ≤ 11 ∧ cnt = .int .i64 (m : Int) ∧ k = m ∧ m + q = m0 ∧ Hid (xs.length = q) ∧ Hid (wr.ownsRow w.heap.size 68 2 (.slice (some ⟨g, 0, none⟩) q c) q (xs.flatMap fgl)) ∧ p' + 4 * m ≤ p + 35 ∧ Rd wr rb p' ∧ w.grownBy wr (some rb))
  case atStart => exact ⟨m0, w.heap.size, 0, 0, p + 1, 0, [], rfl, rfl, by omega, by omega, by go_num, rfl, by omega, rfl, hown1.out, by omega, hr1, hO1⟩
  case round =>
    obtain ⟨m, g, c', q, p', a, xs, rfl, rfl, ha0, ha1, rfl, hk, hmq, hxl, hown, hp', hrd, hO⟩ := hrel
    have HK := Lib.hid hk; clear hk
    have hgb := (hown.out.lt g rfl).1
    have hs0 := hO.size
    by_cases hm : 0 < m
    · go_wp2_with fail
      ((with_reducible refine (pick_any _ _ _ _ hrd (by omega)).mono ?_); rintro e w2 ⟨x, rfl, hx0, hx1, hr2, ho2⟩)
      have hx2 := hx1 (by omega)
      clear hx1
      have hown2 := hown.out.kept ho2 (.inr (by simp [Value.ownBlock]; omega))
      have hO2 := only_trans hO ho2
      have hs2 := hO2.size
      by_cases h11 : 11 < a + x
      · skip
        go_wp2_with fail
        ((with_reducible refine (pick_any _ _ _ _ hr2 (by omega)).mono ?_); rintro e w3 ⟨y, rfl, hy0, hy1, hr3, ho3⟩)
        have hy2 := hy1 (by omega)
        clear hy1
        have hown3 := hown2.kept ho3 (.inr (by simp [Value.ownBlock]; omega))
        have hO3 := only_trans hO2 ho3
        have HO := Lib.hid (hown3.alloc (.cells #[.int .i64 (1 + y), .int .i64 (11)] 68))
        have HB := Lib.hid (Blk.new w3 68 #[.int .i64 (1 + y), .int .i64 (11)])
        have hbase : w.heap.size ≤ (w3.alloc (.cells #[.int .i64 (1 + y), .int .i64 (11)] 68)).heap.size := by have := hO3.size; simp; omega
        have HRD := Lib.hid hr3
        clear hown2 hown3
        go_wp2_with (at_builtin; (refine wpList_append_one _ rfl _ _ 46 rfl w.heap.size 68 j0 _ 2 16 Try.underlying46 ji jz0 jz1 jz2 rfl (by omega) (some ⟨g, 0, none⟩) q c' (xs.flatMap fgl) rfl HO.out w3.heap.size (fgl ⟨1 + y, 11⟩) rfl rfl HB.out (fgl_one _) (by omega) (by omega) hbase ?_); intro g' c'' w9 hown9 hgr9; (have HO9 := Lib.hid hown9); (have HG9 := Lib.hid hgr9); clear hown9 hgr9)
        go_wp2_with fail
        go_roundg (m - 1)
        case measure => have := HK.out; omega
        case rel =>
          refine ⟨m - 1, g', c'', q + 1, _, _, xs ++ [⟨1 + y, 11⟩], rfl, rfl, by omega, by omega, by go_num, rfl, by omega, ?_, ?_, ?_, (HRD.out.alloc _).own HG9.out (by intro x hx; cases hx; simp; omega), only_own (only_alloc hO3 _) HG9.out (by intro x hx; cases hx; simp; omega)⟩
          · show (xs ++ [_]).length = q + 1
            rw [List.length_append, hxl.out]; rfl
          · show World.ownsRow _ _ _ _ _ _ _
            rw [flat_snoc]; exact HO9.out
          · omega
      · have h11' : a + x ≤ 11 := by omega
        go_wp2_with fail
        ((with_reducible refine (pick_any _ _ _ _ hr2 (by omega)).mono ?_); rintro e w3 ⟨y, rfl, hy0, hy1, hr3, ho3⟩)
        have hy2 := hy1 (by omega)
        clear hy1
        have hown3 := hown2.kept ho3 (.inr (by simp [Value.ownBlock]; omega))
        have hO3 := only_trans hO2 ho3
        have HO := Lib.hid (hown3.alloc (.cells #[.int .i64 (1 + y), .int .i64 (a + x)] 68))
        have HB := Lib.hid (Blk.new w3 68 #[.int .i64 (1 + y), .int .i64 (a + x)])
        have hbase : w.heap.size ≤ (w3.alloc (.cells #[.int .i64 (1 + y), .int .i64 (a + x)] 68)).heap.size := by have := hO3.size; simp; omega
        have HRD := Lib.hid hr3
        clear hown2 hown3
        go_wp2_with (at_builtin; (refine wpList_append_one _ rfl _ _ 46 rfl w.heap.size 68 j0 _ 2 16 Try.underlying46 ji jz0 jz1 jz2 rfl (by omega) (some ⟨g, 0, none⟩) q c' (xs.flatMap fgl) rfl HO.out w3.heap.size (fgl ⟨1 + y, a + x⟩) rfl rfl HB.out (fgl_one _) (by omega) (by omega) hbase ?_); intro g' c'' w9 hown9 hgr9; (have HO9 := Lib.hid hown9); (have HG9 := Lib.hid hgr9); clear hown9 hgr9)
        go_wp2_with fail
        go_roundg (m - 1)
        case measure => have := HK.out; omega
        case rel =>
          refine ⟨m - 1, g', c'', q + 1, _, _, xs ++ [⟨1 + y, a + x⟩], rfl, rfl, by omega, by omega, by go_num, rfl, by omega, ?_, ?_, ?_, (HRD.out.alloc _).own HG9.out (by intro x hx; cases hx; simp; omega), only_own (only_alloc hO3 _) HG9.out (by intro x hx; cases hx; simp; omega)⟩
          · show (xs ++ [_]).length = q + 1
            rw [List.length_append, hxl.out]; rfl
          · show World.ownsRow _ _ _ _ _ _ _
            rw [flat_snoc]; exact HO9.out
          · omega
    · go_wp2_with fail
      go_ret
      exact ⟨g, q, c', xs, p', rfl, hxl.out, by omega, hown.out, by omega, hrd, hO⟩

set_option maxHeartbeats 2000000 in
theorem anyFigures_any (rb p : Nat) (w : World) (h : Rd w rb p) (hp : p ≤ 70368744177664) : Calls Try.prog 62 #[.pointer (some ⟨rb, 0, none⟩)] w (DrawnFigs w rb p 44) := by
  have hlt := h.lt
  go_enter Try.func62, Try.ntmps62
  go_wp2_with fail
  ((with_reducible refine (randomFigures_any rb _ _ h (by omega)).mono ?_); rintro e w1 ⟨g, n, c, xs, p', rfl, hxl, hn, hown, hp', hr1, ho1⟩)
  have hgb := (hown.lt g rfl).1
  have hs1 := ho1.size
  have HXL := Lib.hid hxl
  clear hxl
  by_cases hn0 : 0 < n
  case neg =>
    have hn0' : ¬ (0 : Int) < (n : Int) := by omega
    have HO := Lib.hid hown
    clear hown
    go_wp2_with fail
    go_ret
    exact ⟨g, n, c, xs, _, rfl, HXL.out, hn, HO.out, by omega, hr1, ho1⟩
  have hn0' : (0 : Int) < (n : Int) := by omega
  go_wp2_with fail
  ((with_reducible refine (pick_any _ _ _ _ hr1 (by omega)).mono ?_); rintro e w2 ⟨x, rfl, hx0, hx1, hr2, ho2⟩)
  clear hx1
  have hown2 := hown.kept ho2 (.inr (by simp [Value.ownBlock]; omega))
  have hO2 := only_trans ho1 ho2
  have hs2 := hO2.size
  clear hown
  by_cases hx2 : x = 0
  · subst hx2
    go_wp2_with fail
    ((with_reducible refine (one_any rb _ w2.heap.size 2 2 (fun i => [0, 1001].getD i 0) _ (hr2.alloc _) (by omega) (by omega) (by omega) (by omega) (lit_cells [0, 1001] (Blk.new _ _ _) rfl)).mono ?_); rintro e w3 ⟨v, _, rfl, hr3, ho3⟩)
    have hown3 := (hown2.alloc (.cells #[.int .i64 0, .int .i64 1001] 3)).kept ho3 (.inr (by simp [Value.ownBlock]; omega))
    have hO3 := only_trans (only_alloc hO2 _) ho3
    obtain ⟨y, ys, rfl⟩ : ∃ y ys, xs = y :: ys := by
      cases xs with
      | nil => have := HXL.out; simp at this; omega
      | cons y ys => exact ⟨y, ys, rfl⟩
    have k0 := hown3.cellAt 0 (by omega)
    have l0 := hown3.frozenAt 0
    simp [fgl] at k0
    have HO3 := Lib.hid hown3
    clear hown2 hown3
    go_wp2_with fail
    go_ret
    have hst := (HO3.out.stored 0 (.int .i64 v)).1
    rw [fgl_set0] at hst
    exact ⟨g, n, c, ⟨v, y.b⟩ :: ys, _, rfl, by simpa using HXL.out, hn, hst, by omega, hr3.setCell (by simp; omega) _, only_setCell hO3 (by right; simpa using hgb) _⟩
  by_cases hx3 : x = 1
  · subst hx3
    go_wp2_with fail
    ((with_reducible refine (one_any rb _ w2.heap.size 3 3 (fun i => [-1, 12, 5].getD i 0) _ (hr2.alloc _) (by omega) (by omega) (by omega) (by omega) (lit_cells [-1, 12, 5] (Blk.new _ _ _) rfl)).mono ?_); rintro e w3 ⟨v, _, rfl, hr3, ho3⟩)
    have hown3 := (hown2.alloc (.cells #[.int .i64 (-1), .int .i64 12, .int .i64 5] 3)).kept ho3 (.inr (by simp [Value.ownBlock]; omega))
    have hO3 := only_trans (only_alloc hO2 _) ho3
    obtain ⟨y, ys, rfl⟩ : ∃ y ys, xs = y :: ys := by
      cases xs with
      | nil => have := HXL.out; simp at this; omega
      | cons y ys => exact ⟨y, ys, rfl⟩
    have k0 := hown3.cellAt 1 (by omega)
    have l0 := hown3.frozenAt 1
    simp [fgl] at k0
    have HO3 := Lib.hid hown3
    clear hown2 hown3
    go_wp2_with fail
    go_ret
    have hst := (HO3.out.stored 1 (.int .i64 v)).1
    rw [fgl_set1] at hst
    exact ⟨g, n, c, ⟨y.a, v⟩ :: ys, _, rfl, by simpa using HXL.out, hn, hst, by omega, hr3.setCell (by simp; omega) _, only_setCell hO3 (by right; simpa using hgb) _⟩
  · have y0 : (x == 0) = false := by simp; omega
    have y1 : (x == 1) = false := by simp; omega
    have HO2 := Lib.hid hown2
    clear hown2
    go_wp2_with fail
    go_ret
    exact ⟨g, n, c, xs, _, rfl, HXL.out, hn, HO2.out, by omega, hr2, hO2⟩

/-- What a call leaves that draws spaces. -/
def DrawnSpace (w : World) (rb p : Nat) (e : Ending) (w' : World) : Prop :=
  ∃ (g n c : Nat) (xs : List Int) (p' : Nat), e = .returned (.slice (some ⟨g, 0, none⟩) n c) ∧ n ≤ 13 ∧ OwnI w' w.heap.size (some ⟨g, 0, none⟩) n c xs ∧ p' ≤ p + 20 ∧ Rd w' rb p' ∧ w.grownBy w' (some rb)
set_option maxHeartbeats 4000000 in
theorem someSpace_any (rb p : Nat) (w : World) (h : Rd w rb p) (hp : p ≤ 140737488355328) : Calls Try.prog 63 #[.pointer (some ⟨rb, 0, none⟩)] w (DrawnSpace w rb p) := by
  obtain ⟨j0, ji, jz0, jz1, jz2⟩ := info_parts int_info
  have hlt := h.lt
  go_enter Try.func63, Try.ntmps63
  go_wp2_with fail
  ((with_reducible refine (one_any _ _ (w.heap.size + 1) 7 7 (fun i => [0, 2, 4, 7, 12, 10, 13].getD i 0) _ ((h.alloc _).alloc _) (by omega) (by omega) (by omega) (by omega) (lit_cells [0, 2, 4, 7, 12, 10, 13] (Blk.new_at _ _ _ _ (by simp)) rfl)).mono ?_); rintro e w1 ⟨v, hv, rfl, hr1, ho1⟩)
  have hv' := lit_bound [0, 2, 4, 7, 12, 10, 13] 0 13 (by decide) (by decide) hv
  clear hv
  obtain ⟨m0, rfl⟩ := Int.eq_ofNat_of_zero_le hv'.1
  have hm0 : m0 ≤ 13 := by omega
  have hO1 : w.grownBy w1 (some rb) := only_trans (only_alloc (only_alloc (only_refl w rb) _) _) ho1
  have hs1 := hO1.size
  have hown1 := Lib.hid (own_nil w1 w.heap.size w.heap.size (((Blk.new w 3 #[]).alloc _).grown ho1 (by simp; omega)) (Nat.le_refl _))
  clear ho1 hv'
  go_wp2_with fail
  go_loopg [3, 4] m0 (fun k o cnt wr => ∃ (m g c q p' : Nat) (xs : List Int), o = .slice (some ⟨g, 0, none⟩) q c ∧ cnt = .int .i64 (m : Int) ∧ k = m ∧ m + q = m0 ∧ Hid (OwnI wr w.heap.size (some ⟨g, 0, none⟩) q c xs) ∧ p' + m ≤ p + 16 ∧ Rd wr rb p' ∧ w.grownBy wr (some rb))
  case atStart => exact ⟨m0, w.heap.size, 0, 0, p + 1, [], rfl, rfl, rfl, by omega, hown1.out, by omega, hr1, hO1⟩
  case round =>
    obtain ⟨m, g, c, q, p', xs, rfl, rfl, hk, hmq, hown, hp', hrd, hO⟩ := hrel
    have HK := Lib.hid hk; clear hk
    have hgb := (hown.out.lt g rfl).1
    have hs0 := hO.size
    by_cases hm : 0 < m
    · go_wp2_with fail
      ((with_reducible refine (one_any _ _ wr.heap.size 5 5 (fun i => [0, 5, 10, 20, 8].getD i 0) _ (hrd.alloc _) (by omega) hrd.lt (by omega) (by omega) (lit_cells [0, 5, 10, 20, 8] (Blk.new _ _ _) rfl)).mono ?_); rintro e w3 ⟨a, ha, rfl, hr3, ho3⟩)
      clear ha
      have hO3 := only_trans (only_alloc hO _) ho3
      have HO := Lib.hid (((OwnI.alloc hown.out _).kept ho3 (.inr (by simp [Value.ownBlock]; omega))).alloc (.cells #[.int .i64 a] 3))
      have HB := Lib.hid (Blk.new w3 3 #[.int .i64 a])
      have hs3 := hO3.size
      have hg3 := (hown.out.lt g rfl).2
      have HS3 := Lib.hid (show w.heap.size ≤ (w3.alloc (.cells #[.int .i64 a] 3)).heap.size by simp; omega)
      go_wp2_with (at_builtin; (refine wpList_append_one _ rfl _ _ 22 rfl w.heap.size 3 j0 _ 1 8 Try.underlying22 ji jz0 jz1 jz2 rfl (by omega) (some ⟨g, 0, none⟩) q c (inl xs) rfl HO.out w3.heap.size (inl [a]) rfl rfl HB.out (inl_one _) (by omega) (by omega) HS3.out ?_); intro g' c' w4 hown4 hgr4)
      have HO4 := Lib.hid hown4
      have hr4 := (hr3.alloc (.cells #[.int .i64 a] 3)).own hgr4 (by intro x hx; cases hx; simp; omega)
      have hO4 := only_own (only_alloc hO3 (.cells #[.int .i64 a] 3)) hgr4 (by intro x hx; cases hx; simp; omega)
      clear hown4
      go_wp2_with fail
      go_roundg (m - 1)
      case measure => have := HK.out; omega
      case rel =>
        refine ⟨m - 1, g', c', q + 1, p' + 1, xs ++ [a], rfl, by go_num, rfl, by omega, ?_, by omega, hr4, hO4⟩
        show World.ownsRow _ _ _ _ _ _ _
        rw [inl_snoc]; exact HO4.out
    · by_cases hq : 0 < q
      · have hqi : (0 : Int) < (q : Int) := by omega
        go_wp2_with fail
        ((with_reducible refine (pick_any _ _ _ _ hrd (by omega)).mono ?_); rintro e w2 ⟨x, rfl, hx0, hx1, hr2, ho2⟩)
        have HO2 := Lib.hid (hown.out.kept ho2 (.inr (by simp [Value.ownBlock]; omega)))
        have hO2 := only_trans hO ho2
        have hs2 := hO2.size
        clear hx1
        by_cases x0 : x = 0
        · subst x0
          go_wp2_with fail
          ((with_reducible refine (one_any rb _ w2.heap.size 2 2 (fun i => [-1, 10001].getD i 0) _ (hr2.alloc _) (by omega) (by omega) (by omega) (by omega) (lit_cells [-1, 10001] (Blk.new _ _ _) rfl)).mono ?_); rintro e w3 ⟨v, hv, rfl, hr3, ho3⟩)
          clear hv
          have ho3' := (HO2.out.alloc (.cells #[.int .i64 (-1), .int .i64 10001] 3)).kept ho3 (.inr (by simp [Value.ownBlock]; omega))
          have hO3 := only_trans (only_alloc hO2 _) ho3
          have hlg := (ho3'.lt g rfl).2
          have k0 := OwnI.cellI ho3' hq
          have l0 := ho3'.frozenAt 0
          have HO3 := Lib.hid ho3'
          clear ho3' HO2 hown
          have hq' : (0 : Int) < (q : Int) := by omega
          go_wp2_with fail
          go_ret
          have hfin : OwnI _ w.heap.size (some ⟨g, 0, none⟩) q c (xs.set 0 v) := OwnI.stored (j := 0) HO3.out v
          exact ⟨g, q, c, xs.set 0 v, p' + 1 + 1, rfl, by omega, hfin, by omega, hr3.setCell (by simp; omega) _, by (repeat' (first | (with_reducible exact only_refl _ _) | (with_reducible assumption) | (with_reducible refine only_alloc ?_ _) | (with_reducible refine only_drew ?_) | (with_reducible refine only_drewN ?_ _) | (with_reducible refine only_setCell ?_ ?_ _) | (with_reducible refine only_trans ?_ (by with_reducible assumption)) | (with_reducible exact Or.inl rfl) | (refine Or.inr ?_; first | (simp; done) | omega | (simp; omega)) | omega))⟩
        · have y0 : (x == 0) = false := by simp; omega
          go_wp2_with fail
          go_ret
          exact ⟨g, q, c, xs, p' + 1, rfl, by omega, HO2.out, by omega, hr2, hO2⟩
      · have hq0 : q = 0 := by omega
        subst hq0
        go_wp2_with fail
        go_ret
        exact ⟨g, 0, c, xs, p', rfl, by omega, hown.out, by omega, hrd, hO⟩

def FigsSpaceOut (w : World) (e : Ending) (w' : World) : Prop :=
  ∃ (g n c b m d : Nat) (xs : List Fg) (ss : List Int), e = .returned (.tuple #[.slice (some ⟨g, 0, none⟩) n c, .slice (some ⟨b, 0, none⟩) m d]) ∧ xs.length = n ∧ n ≤ 6 ∧ ss.length = m ∧ m ≤ 13 ∧ Row w' w'.heap.size 2 (some ⟨g, 0, none⟩) n (fgc xs) ∧ Row w' w'.heap.size 1 (some ⟨b, 0, none⟩) m (inc ss) ∧ Below w.heap.size w w'
set_option maxHeartbeats 1000000 in
theorem DrawPlaceFigures_any (A : Option Addr) (n cap : Nat) (cs : List Int) (w : World) (hc : Code w A n cap cs) :
    Calls Try.prog 38 #[.slice A n cap] w (FigsSpaceOut w) := by
  obtain ⟨h1, h2, h3, h4, h5⟩ := hc
  have HH := Lib.hid h4; clear h4
  go_enter Try.func38, Try.ntmps38
  go_wp2_with fail
  ((with_reducible refine (newReader_any _ _ _ cs _ h1 h2 h3 HH.out h5).mono ?_); rintro e w1 ⟨rfl, hr1, hb1⟩)
  have hs1 := hb1.size
  go_wp2_with fail
  ((with_reducible refine (anyFigures_any _ _ _ hr1 (by omega)).mono ?_); rintro e w2 ⟨g, m, c, xs, p', rfl, hx, hm, hown, hp, hr2, ho2⟩)
  have HX := Lib.hid hx; clear hx
  have hb2 : Below w.heap.size w w2 := hb1.trans (below_of_only ho2 (Nat.le_refl _) hs1)
  have hs2 := hb2.size
  have hgb := (hown.lt g rfl).1
  have hl1 := hr1.lt
  go_wp2_with fail
  ((with_reducible refine (someSpace_any _ _ _ hr2 (by omega)).mono ?_); rintro e w3 ⟨b, k, d, ss, p3, rfl, hk, hown3, _, hr3, ho3⟩)
  have hb3 : Below w.heap.size w w3 := hb2.trans (below_of_only ho3 (Nat.le_refl _) hs2)
  have hownF := hown.kept ho3 (.inr (by simp [Value.ownBlock]; omega))
  have hrow : Row w3 w3.heap.size 2 (some ⟨g, 0, none⟩) m (fgc xs) := Row.owned hownF fun i q hi hq => fgl_at i q (by rw [HX.out]; exact hi) hq
  have HRow := Lib.hid hrow
  have HO3 := Lib.hid hown3
  clear hown hownF hrow hown3
  go_wp2_with fail
  go_ret2
  exact ⟨g, m, c, b, k, d, xs, ss, rfl, HX.out, hm, HO3.out.len, hk, HRow.out, HO3.out.row, hb3⟩
end Go.Proofs.Ytlgbeoghjjjlmaa
