/- The generators of lines return some lines, in memory of their own. Conditions: the reader has yielded fewer than 2^48 numbers. -/
import Derived.Test.YticdgpgbpgjnbaaReader
import Derived.Test.YticdgpgbpgjnbaaLineS
import Derived.Test.YticdgpgbpgjnbaaInts
import Derived.OneCell
namespace Go.Proofs.Yticdgpgbpgjnbaa
open Go.RowKit

def lnl (b : Ln) : List Value := [.int .i64 b.a, .int .i64 b.b, .int .i64 b.c]
theorem lnl_one (b : Ln) : ∀ u ∈ lnl b, u.oneCell' = true := by intro u hu; simp [lnl] at hu; rcases hu with rfl | rfl | rfl <;> rfl
theorem lnl_len (b : Ln) : (lnl b).length = 3 := rfl
theorem lnl_at {xs : List Ln} : ∀ i q, i < xs.length → q < 3 → (xs.flatMap lnl)[i * 3 + q]? = some (lnc xs i q) := by
  intro i q hi hq
  rw [flat_at lnl 3 lnl_len xs i q hi hq]
  match q, hq with
  | 0, _ => rfl
  | 1, _ => rfl
  | 2, _ => rfl
theorem lnl_set (y : Ln) (ys : List Ln) (a : Int) : ((y :: ys).flatMap lnl).set 0 (.int .i64 a) = ((⟨a, y.b, y.c⟩ : Ln) :: ys).flatMap lnl := by simp [lnl]
theorem lnl_set2 (y : Ln) (ys : List Ln) (c : Int) : ((y :: ys).flatMap lnl).set 2 (.int .i64 c) = ((⟨y.a, y.b, c⟩ : Ln) :: ys).flatMap lnl := by simp [lnl]

/-- What a call leaves that draws a slice of lines. -/
def DrawnLines (w : World) (rb p K lo : Nat) (e : Ending) (w' : World) : Prop :=
  ∃ (g n c : Nat) (xs : List Ln) (p' : Nat), e = .returned (.slice (some ⟨g, 0, none⟩) n c) ∧ xs.length = n ∧ (lo ≤ n ∧ n ≤ 12) ∧ w'.ownsRow w.heap.size 35 3 (.slice (some ⟨g, 0, none⟩) n c) n (xs.flatMap lnl) ∧ p' ≤ p + K ∧ Rd w' rb p' ∧ w.grownBy w' (some rb)

set_option maxHeartbeats 4000000 in
theorem randomLines_any (rb p : Nat) (w : World) (h : Rd w rb p) (hp : p ≤ 140737488355328) : Calls Try.prog 58 #[.pointer (some ⟨rb, 0, none⟩)] w (fun e w' => DrawnLines w rb p 60 1 e w') := by
  obtain ⟨j0, ji, jz0, jz1, jz2⟩ := info_parts line_info
  have hlt := h.lt
  go_enter Try.func58, Try.ntmps58
  go_wp2_with fail
  ((with_reducible refine (pick_any rb _ _ _ (h.alloc _) (by omega)).mono ?_); rintro e w1 ⟨v, rfl, hv1, hv2, hr1, ho1⟩)
  have hv3 := hv2 (by omega)
  clear hv2
  obtain ⟨m0, rfl⟩ := Int.eq_ofNat_of_zero_le hv1
  have hown1 := Lib.hid (owns_nil w1 w.heap.size 35 3 0 _ _ ((Blk.new w 35 #[]).grown ho1 (by simp; omega)) (Nat.le_refl _) (by unfold maxLen; omega) rfl)
  have hO1 : w.grownBy w1 (some rb) := by (repeat' (first | (with_reducible exact only_refl _ _) | (with_reducible assumption) | (with_reducible refine only_alloc ?_ _) | (with_reducible refine only_drew ?_) | (with_reducible refine only_drewN ?_ _) | (with_reducible refine only_setCell ?_ ?_ _) | (with_reducible refine only_trans ?_ (by with_reducible assumption)) | (with_reducible exact Or.inl rfl) | (refine Or.inr ?_; first | (simp; done) | omega | (simp; omega)) | omega))
  have hs1 := hO1.size
  clear ho1
  go_wp2_with fail
  go_loopg [3, 4] (m0 + 1) (fun k o cnt wr => ∃ (m g c q p' : Nat) (xs : List Ln), o = .slice (some ⟨g, 0, none⟩) q c ∧ cnt = .int .i64 (m : Int) ∧ k = m ∧ m + q = m0 + 1 ∧ Hid (xs.length = q) ∧ Hid (wr.ownsRow w.heap.size 35 3 (.slice (some ⟨g, 0, none⟩) q c) q (xs.flatMap lnl)) ∧ p' + 4 * m ≤ p + 55 ∧ Rd wr rb p' ∧ w.grownBy wr (some rb))
  case atStart => exact ⟨m0 + 1, w.heap.size, 0, 0, p + 1, [], rfl, by go_num, rfl, by omega, rfl, hown1.out, by omega, hr1, hO1⟩
  case round =>
    obtain ⟨m, g, c', q, p', xs, rfl, rfl, hk, hmq, hxl, hown, hp', hrd, hO⟩ := hrel
    have HK := Lib.hid hk; clear hk
    have hgb := (hown.out.lt g rfl).1
    have hs0 := hO.size
    by_cases hm : 0 < m
    · go_wp2_with fail
      ((with_reducible refine (pick_any _ _ _ _ hrd (by omega)).mono ?_); rintro e w2 ⟨x, rfl, hx0, hx1, hr2, ho2⟩)
      have hx2 := hx1 (by omega)
      clear hx1
      have hown2 := hown.out.kept ho2 (.inr (by simp [Value.ownBlock]; omega))
      have hO2 := only_trans hO ho2
      have hs2 := hO2.size
      go_wp2_with fail
      ((with_reducible refine (one_any rb _ w2.heap.size 5 5 (fun i => [0, 0, 0, 20, 100].getD i 0) _ (hr2.alloc _) (by omega) (by omega) (by omega) (by omega) (lit_cells [0, 0, 0, 20, 100] (Blk.new _ _ _) rfl)).mono ?_); rintro e w3 ⟨v, _, rfl, hr3, ho3⟩)
      have hown3 := (hown2.alloc (.cells #[.int .i64 0, .int .i64 0, .int .i64 0, .int .i64 20, .int .i64 100] 3)).kept ho3 (.inr (by simp [Value.ownBlock]; omega))
      have hO3 := only_trans (only_alloc hO2 _) ho3
      have hs3 := hO3.size
      have hl3 := hr3.lt
      have HX3 := Lib.hid (Blk.new w3 35 #[.int .i64 (3 + x), .int .i64 0, .int .i64 v])
      have hown3a := hown3.alloc (.cells #[.int .i64 (3 + x), .int .i64 0, .int .i64 v] 35)
      have hgl3 := (hown3.lt g rfl).2
      clear hown2
      go_wp2_with fail
      ((with_reducible refine (pick_any _ _ _ _ (hr3.alloc _) (by omega)).mono ?_); rintro e w4 ⟨y, rfl, hy0, hy1, hr4, ho4⟩)
      clear hy1
      have hown4 := hown3a.kept ho4 (.inr (by simp [Value.ownBlock]; omega))
      have hO4 := only_trans (only_alloc hO3 _) ho4
      have hX4 := HX3.out.grown ho4 (by simp; omega)
      have hs4 := hO4.size
      clear hown3 hown3a
      by_cases y0 : y = 0
      · subst y0
        go_wp2_with fail
        ((with_reducible refine (pick_any _ _ _ _ hr4 (by omega)).mono ?_); rintro e w5 ⟨z, rfl, hz0, hz1, hr5, ho5⟩)
        have hz2 := hz1 (by omega)
        clear hz1
        have hown5 := hown4.kept ho5 (.inr (by simp [Value.ownBlock]; omega))
        have hO5 := only_trans hO4 ho5
        have hX5 := hX4.grown ho5 (by simp; omega)
        have tlt := hX5.lt
        have tc0 := hX5.cell 0; have tf0 := hX5.frozen 0
        have tc1 := hX5.cell 1; have tf1 := hX5.frozen 1
        have tc2 := hX5.cell 2; have tf2 := hX5.frozen 2
        simp only [List.getElem?_toArray, List.getElem?_cons_zero, List.getElem?_cons_succ] at tc0 tc1 tc2
        have hO6 : w.grownBy (w5.setCell ⟨w3.heap.size, 1, none⟩ (.int .i64 (1 + z))) (some rb) := only_setCell hO5 (by right; simp; omega) _
        have hr6 : Rd (w5.setCell ⟨w3.heap.size, 1, none⟩ (.int .i64 (1 + z))) rb (p' + 1 + 1 + 1 + 1) := hr5.setCell (by simp; omega) _
        have HOW := Lib.hid (ownsRow_setCell_other hown5 (a := ⟨w3.heap.size, 1, none⟩) (by simp [Value.ownBlock]; omega) (.int .i64 (1 + z)))
        clear hX4 hX5 hown4 hown5
        have HO := Lib.hid (HOW.out.alloc (.cells #[.int .i64 (3 + x), .int .i64 (1 + z), .int .i64 (v)] 35))
        have HB := Lib.hid (Blk.new_at (w5.setCell ⟨w3.heap.size, 1, none⟩ (.int .i64 (1 + z))) 35 #[.int .i64 (3 + x), .int .i64 (1 + z), .int .i64 (v)] w5.heap.size (by simp))
        have hbase : w.heap.size ≤ ((w5.setCell ⟨w3.heap.size, 1, none⟩ (.int .i64 (1 + z))).alloc (.cells #[.int .i64 (3 + x), .int .i64 (1 + z), .int .i64 (v)] 35)).heap.size := by have := (hO6).size; simp; omega
        have hgW := (HO.out.lt g rfl).1
        have HRD := Lib.hid (hr6)
        go_wp2_with (at_builtin; (refine wpList_append_one _ rfl (.tmp 28) (.tmp 30) 25 rfl w.heap.size 35 j0 _ 3 24 Try.underlying25 ji jz0 jz1 jz2 rfl (by omega) (some ⟨g, 0, none⟩) q c' (xs.flatMap lnl) rfl HO.out w5.heap.size (lnl ⟨3 + x, 1 + z, v⟩) rfl rfl HB.out (lnl_one _) (by omega) (by omega) hbase ?_); intro g' c'' w9 hown9 hgr9; (have HO9 := Lib.hid hown9); (have HG9 := Lib.hid hgr9); clear hown9 hgr9)
        go_wp2_with fail
        go_roundg (m - 1)
        case measure => have := HK.out; omega
        case rel =>
          refine ⟨m - 1, g', c'', q + 1, _, xs ++ [⟨3 + x, 1 + z, v⟩], rfl, by go_num, rfl, by omega, ?_, ?_, ?_, (HRD.out.alloc _).own HG9.out (by intro x hx; cases hx; simp; omega), only_own (only_alloc (hO6) _) HG9.out (by intro x hx; cases hx; simp; omega)⟩
          · show (xs ++ [_]).length = q + 1
            rw [List.length_append, hxl.out]; rfl
          · show World.ownsRow _ _ _ _ _ _ _
            rw [flat_snoc]; exact HO9.out
          · omega
      · have y1 : (y == 0) = false := by simp; omega
        have tlt := hX4.lt
        have tc0 := hX4.cell 0; have tf0 := hX4.frozen 0
        have tc1 := hX4.cell 1; have tf1 := hX4.frozen 1
        have tc2 := hX4.cell 2; have tf2 := hX4.frozen 2
        simp only [List.getElem?_toArray, List.getElem?_cons_zero, List.getElem?_cons_succ] at tc0 tc1 tc2
        have HOW := Lib.hid hown4
        clear hX4 hown4
        have HO := Lib.hid (HOW.out.alloc (.cells #[.int .i64 (3 + x), .int .i64 (0), .int .i64 (v)] 35))
        have HB := Lib.hid (Blk.new w4 35 #[.int .i64 (3 + x), .int .i64 (0), .int .i64 (v)])
        have hbase : w.heap.size ≤ (w4.alloc (.cells #[.int .i64 (3 + x), .int .i64 (0), .int .i64 (v)] 35)).heap.size := by have := (hO4).size; simp; omega
        have hgW := (HO.out.lt g rfl).1
        have HRD := Lib.hid (hr4)
        go_wp2_with (at_builtin; (refine wpList_append_one _ rfl (.tmp 28) (.tmp 30) 25 rfl w.heap.size 35 j0 _ 3 24 Try.underlying25 ji jz0 jz1 jz2 rfl (by omega) (some ⟨g, 0, none⟩) q c' (xs.flatMap lnl) rfl HO.out w4.heap.size (lnl ⟨3 + x, 0, v⟩) rfl rfl HB.out (lnl_one _) (by omega) (by omega) hbase ?_); intro g' c'' w9 hown9 hgr9; (have HO9 := Lib.hid hown9); (have HG9 := Lib.hid hgr9); clear hown9 hgr9)
        go_wp2_with fail
        go_roundg (m - 1)
        case measure => have := HK.out; omega
        case rel =>
          refine ⟨m - 1, g', c'', q + 1, _, xs ++ [⟨3 + x, 0, v⟩], rfl, by go_num, rfl, by omega, ?_, ?_, ?_, (HRD.out.alloc _).own HG9.out (by intro x hx; cases hx; simp; omega), only_own (only_alloc (hO4) _) HG9.out (by intro x hx; cases hx; simp; omega)⟩
          · show (xs ++ [_]).length = q + 1
            rw [List.length_append, hxl.out]; rfl
          · show World.ownsRow _ _ _ _ _ _ _
            rw [flat_snoc]; exact HO9.out
          · omega
    · go_wp2_with fail
      go_ret
      exact ⟨g, q, c', xs, p', rfl, hxl.out, ⟨by omega, by omega⟩, hown.out, by omega, hrd, hO⟩

set_option maxHeartbeats 2000000 in
theorem anyLines_any (rb p : Nat) (w : World) (h : Rd w rb p) (hp : p ≤ 70368744177664) : Calls Try.prog 46 #[.pointer (some ⟨rb, 0, none⟩)] w (fun e w' => DrawnLines w rb p 64 0 e w') := by
  have hlt := h.lt
  go_enter Try.func46, Try.ntmps46
  go_wp2_with fail
  ((with_reducible refine (randomLines_any rb p _ h (by omega)).mono ?_); rintro e w1 ⟨g, n, c, xs, p1, rfl, hxl, ⟨hn0, hn⟩, hown1, hp1, hr1, hO1⟩)
  have HXL := Lib.hid hxl; clear hxl
  have hgb := (hown1.lt g rfl).1
  have hs1 := hO1.size
  go_wp2_with fail
  ((with_reducible refine (pick_any _ _ _ _ hr1 (by omega)).mono ?_); rintro e w2 ⟨x, rfl, hx0, hx1, hr2, ho2⟩)
  clear hx1
  have hown2 := hown1.kept ho2 (.inr (by simp [Value.ownBlock]; omega))
  have hO2 := only_trans hO1 ho2
  have hs2 := hO2.size
  clear hown1
  by_cases hx2 : x = 0
  · subst hx2
    have hn0' : (0 : Int) < (n : Int) := by omega
    go_wp2_with fail
    ((with_reducible refine (one_any rb _ w2.heap.size 2 2 (fun i => [0, 1001].getD i 0) _ (hr2.alloc _) (by omega) (by omega) (by omega) (by omega) (lit_cells [0, 1001] (Blk.new _ _ _) rfl)).mono ?_); rintro e w3 ⟨v, _, rfl, hr3, ho3⟩)
    have hown3 := (hown2.alloc (.cells #[.int .i64 0, .int .i64 1001] 3)).kept ho3 (.inr (by simp [Value.ownBlock]; omega))
    have hO3 := only_trans (only_alloc hO2 _) ho3
    obtain ⟨y, ys, rfl⟩ : ∃ y ys, xs = y :: ys := by
      cases xs with
      | nil => have := HXL.out; simp at this; omega
      | cons y ys => exact ⟨y, ys, rfl⟩
    have k0 := hown3.cellAt 0 (by omega)
    have l0 := hown3.frozenAt 0
    simp [lnl] at k0
    have HO3 := Lib.hid hown3
    clear hown2 hown3
    go_wp2_with fail
    go_ret
    have hst := (HO3.out.stored 0 (.int .i64 v)).1
    rw [lnl_set] at hst
    exact ⟨g, n, c, ⟨v, y.b, y.c⟩ :: ys, _, rfl, by simpa using HXL.out, ⟨by omega, hn⟩, hst, by omega, hr3.setCell (by simp; omega) _, only_setCell hO3 (by right; simpa using hgb) _⟩
  by_cases hx3 : x = 1
  · subst hx3
    have hn0' : (0 : Int) < (n : Int) := by omega
    go_wp2_with fail
    ((with_reducible refine (one_any rb _ w2.heap.size 2 2 (fun i => [-1, 1001].getD i 0) _ (hr2.alloc _) (by omega) (by omega) (by omega) (by omega) (lit_cells [-1, 1001] (Blk.new _ _ _) rfl)).mono ?_); rintro e w3 ⟨v, _, rfl, hr3, ho3⟩)
    have hown3 := (hown2.alloc (.cells #[.int .i64 (-1), .int .i64 1001] 3)).kept ho3 (.inr (by simp [Value.ownBlock]; omega))
    have hO3 := only_trans (only_alloc hO2 _) ho3
    obtain ⟨y, ys, rfl⟩ : ∃ y ys, xs = y :: ys := by
      cases xs with
      | nil => have := HXL.out; simp at this; omega
      | cons y ys => exact ⟨y, ys, rfl⟩
    have k0 := hown3.cellAt 2 (by omega)
    have l0 := hown3.frozenAt 2
    simp [lnl] at k0
    have HO3 := Lib.hid hown3
    clear hown2 hown3
    go_wp2_with fail
    go_ret
    have hst := (HO3.out.stored 2 (.int .i64 v)).1
    rw [lnl_set2] at hst
    exact ⟨g, n, c, ⟨y.a, y.b, v⟩ :: ys, _, rfl, by simpa using HXL.out, ⟨by omega, hn⟩, hst, by omega, hr3.setCell (by simp; omega) _, only_setCell hO3 (by right; simpa using hgb) _⟩
  by_cases hx4 : x = 2
  · subst hx4
    go_wp2_with fail
    go_ret
    exact ⟨w2.heap.size, 0, 0, [], _, rfl, rfl, ⟨by omega, by omega⟩, owns_nil _ _ _ _ _ _ _ (Blk.new _ _ _) (by omega) (by unfold maxLen; omega) rfl, by omega, hr2.alloc _, only_alloc hO2 _⟩
  · have y0 : (x == 0) = false := by simp; omega
    have y1 : (x == 1) = false := by simp; omega
    have y2 : (x == 2) = false := by simp; omega
    have HO2 := Lib.hid hown2
    clear hown2
    go_wp2_with fail
    go_ret
    exact ⟨g, n, c, xs, _, rfl, HXL.out, ⟨by omega, hn⟩, HO2.out, by omega, hr2, hO2⟩
end Go.Proofs.Yticdgpgbpgjnbaa
