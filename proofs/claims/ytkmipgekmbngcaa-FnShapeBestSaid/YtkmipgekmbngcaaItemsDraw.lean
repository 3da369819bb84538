/- The generators of items of a paragraph return some items, in memory of their own. Conditions: the reader has yielded fewer than 2^48 numbers. -/
import Derived.Test.YtkmipgekmbngcaaReader
import Derived.Test.YtkmipgekmbngcaaMSb3
import Derived.Test.YtkmipgekmbngcaaMSb5
import Derived.Test.YtkmipgekmbngcaaMSb2
import Derived.OneCell
namespace Go.Proofs.Ytkmipgekmbngcaa
open Go.RowKit

def itl (b : It) : List Value := [.int .i64 b.k, .int .i64 b.w, .int .i64 b.st, .int .i64 b.sh, .int .i64 b.pen, .bool b.fl]
theorem itl_one (b : It) : ∀ u ∈ itl b, u.oneCell' = true := by intro u hu; simp [itl] at hu; rcases hu with rfl | rfl | rfl | rfl | rfl | rfl <;> rfl
theorem itl_two (a b : It) : ∀ u ∈ itl a ++ itl b, u.oneCell' = true := by
  intro u hu
  rcases List.mem_append.1 hu with h | h
  · exact itl_one a u h
  · exact itl_one b u h
theorem itl_len (b : It) : (itl b).length = 6 := rfl
theorem itl_at {xs : List It} : ∀ i q, i < xs.length → q < 6 → (xs.flatMap itl)[i * 6 + q]? = some (itc xs i q) := by
  intro i q hi hq
  rw [flat_at itl 6 itl_len xs i q hi hq]
  match q, hq with
  | 0, _ => rfl
  | 1, _ => rfl
  | 2, _ => rfl
  | 3, _ => rfl
  | 4, _ => rfl
  | 5, _ => rfl
abbrev OwT (w : World) (base g n c : Nat) (xs : List It) : Prop := w.ownsRow base 78 6 (.slice (some ⟨g, 0, none⟩) n c) n (xs.flatMap itl)
theorem OwT.snoc {w : World} {base g n c : Nat} {xs : List It} {x : It} (h : w.ownsRow base 78 6 (.slice (some ⟨g, 0, none⟩) n c) n (xs.flatMap itl ++ itl x)) : OwT w base g n c (xs ++ [x]) := by
  show World.ownsRow _ _ _ _ _ _ _
  rw [flat_snoc]; exact h
theorem OwT.snoc2 {w : World} {base g n c : Nat} {xs : List It} {x y : It} (h : w.ownsRow base 78 6 (.slice (some ⟨g, 0, none⟩) n c) n (xs.flatMap itl ++ (itl x ++ itl y))) : OwT w base g n c (xs ++ [x, y]) := by
  show World.ownsRow _ _ _ _ _ _ _
  rw [List.flatMap_append]
  simpa using h

/-- What a call leaves that draws a slice of items. -/
def DrawnItems (w : World) (rb p K lo : Nat) (e : Ending) (w' : World) : Prop :=
  ∃ (g n c : Nat) (xs : List It) (p' : Nat), e = .returned (.slice (some ⟨g, 0, none⟩) n c) ∧ xs.length = n ∧ (lo ≤ n ∧ n ≤ 23) ∧ OwT w' w.heap.size g n c xs ∧ p' ≤ p + K ∧ Rd w' rb p' ∧ w.grownBy w' (some rb)

set_option maxRecDepth 100000 in
set_option maxHeartbeats 4000000 in
theorem randomItems_any (rb p : Nat) (w : World) (h : Rd w rb p) (hp : p ≤ 140737488355328) : Calls Try.prog 69 #[.pointer (some ⟨rb, 0, none⟩)] w (fun e w' => DrawnItems w rb p 80 1 e w') := by
  obtain ⟨j0, ji, jz0, jz1, jz2⟩ := info_parts item_info
  have hlt := h.lt
  go_enter Try.func69, Try.ntmps69
  go_wp2_with fail
  ((with_reducible refine (pick_any rb _ _ _ (h.alloc _) (by omega)).mono ?_); rintro e w1 ⟨v, rfl, hv1, hv2, hr1, ho1⟩)
  have hv3 := hv2 (by omega)
  clear hv2
  obtain ⟨m0, rfl⟩ := Int.eq_ofNat_of_zero_le hv1
  have hown1 := Lib.hid (owns_nil w1 w.heap.size 78 6 0 _ _ ((Blk.new w 78 #[]).grown ho1 (by simp; omega)) (Nat.le_refl _) (by unfold maxLen; omega) rfl)
  have hO1 : w.grownBy w1 (some rb) := by (repeat' (first | (with_reducible exact only_refl _ _) | (with_reducible assumption) | (with_reducible refine only_alloc ?_ _) | (with_reducible refine only_drew ?_) | (with_reducible refine only_drewN ?_ _) | (with_reducible refine only_setCell ?_ ?_ _) | (with_reducible refine only_trans ?_ (by with_reducible assumption)) | (with_reducible exact Or.inl rfl) | (refine Or.inr ?_; first | (simp; done) | omega | (simp; omega)) | omega))
  have hs1 := hO1.size
  clear ho1
  go_wp2_with fail
  go_loopg [3, 4] m0 (fun k o cnt wr => ∃ (m g c q p' : Nat) (xs : List It), o = .slice (some ⟨g, 0, none⟩) q c ∧ cnt = .int .i64 (m : Int) ∧ k = m ∧ 2 * m + q ≤ 20 ∧ Hid (xs.length = q) ∧ Hid (OwT wr w.heap.size g q c xs) ∧ p' + 6 * m ≤ p + 70 ∧ Rd wr rb p' ∧ w.grownBy wr (some rb))
  case atStart => exact ⟨m0, w.heap.size, 0, 0, p + 1, [], rfl, by go_num, rfl, by omega, rfl, hown1.out, by omega, hr1, hO1⟩
  case round =>
    obtain ⟨m, g, c', q, p', xs, rfl, rfl, hk, hmq, hxl, hown, hp', hrd, hO⟩ := hrel
    have HK := Lib.hid hk; clear hk
    have hgb := (hown.out.lt g rfl).1
    have hs0 := hO.size
    by_cases hm : 0 < m
    · have hownr := hown.out
      go_wp2_with fail
      ((with_reducible refine (pick_any _ _ _ _ hrd (by omega)).mono ?_); rintro e w2 ⟨x, rfl, hx0, hx1, r2, ho⟩)
      have hx2 := hx1 (by omega)
      clear hx1
      have o2 := (hownr).kept ho (.inr (by simp [Value.ownBlock]; omega))
      have O2 := only_trans (hO) ho
      have hsw2 := (O2).size
      clear ho
      have HO := Lib.hid ((o2).alloc (.cells #[.int .i64 (1), .int .i64 (2 + x), .int .i64 (0), .int .i64 (0), .int .i64 (0), .bool false] 78))
      have HB := Lib.hid (Blk.new w2 78 #[.int .i64 (1), .int .i64 (2 + x), .int .i64 (0), .int .i64 (0), .int .i64 (0), .bool false])
      have hbase : w.heap.size ≤ (w2.alloc (.cells #[.int .i64 (1), .int .i64 (2 + x), .int .i64 (0), .int .i64 (0), .int .i64 (0), .bool false] 78)).heap.size := by have := (O2).size; simp; omega
      have hgW := (HO.out.lt g rfl).1
      have HRD := Lib.hid (r2)
      go_wp2_with (at_builtin; (refine wpList_append_one _ rfl _ _ 23 rfl w.heap.size 78 j0 _ 6 48 Try.underlying23 ji jz0 jz1 jz2 rfl (by omega) (some ⟨g, 0, none⟩) (q) c' ((xs).flatMap itl) rfl HO.out w2.heap.size (itl (⟨1, 2 + x, 0, 0, 0, false⟩ : It)) rfl rfl HB.out (itl_one _) (by omega) (by omega) hbase ?_); intro g3 c3 w3 hown9 hgr9; (have HO9 := Lib.hid hown9); (have HG9 := Lib.hid hgr9); clear hown9 hgr9)
      have o3 := OwT.snoc HO9.out
      have r3 := (HRD.out.alloc (.cells #[.int .i64 (1), .int .i64 (2 + x), .int .i64 (0), .int .i64 (0), .int .i64 (0), .bool false] 78)).own HG9.out (by intro x hx; cases hx; simp; omega)
      have O3 := only_own (only_alloc (O2) (.cells #[.int .i64 (1), .int .i64 (2 + x), .int .i64 (0), .int .i64 (0), .int .i64 (0), .bool false] 78)) HG9.out (by intro x hx; cases hx; simp; omega)
      clear HO HB hbase HRD HO9 HG9
      have hg3 := (o3.lt g3 rfl).1
      have hs3 := O3.size
      go_wp2_with fail
      ((with_reducible refine (pick_any _ _ _ _ r3 (by omega)).mono ?_); rintro e w4 ⟨y, rfl, hy0, hy1, r4, ho⟩)
      have hy2 := hy1 (by omega)
      clear hy1
      have o4 := (o3).kept ho (.inr (by simp [Value.ownBlock]; omega))
      have O4 := only_trans (O3) ho
      have hsw4 := (O4).size
      clear ho
      by_cases y0 : y = 0
      · subst y0
        go_wp2_with fail
        ((with_reducible refine (pick_any _ _ _ _ r4 (by omega)).mono ?_); rintro e w5 ⟨a, rfl, ha0, ha1, r5, ho⟩)
        have ha2 := ha1 (by omega)
        clear ha1
        have o5 := (o4).kept ho (.inr (by simp [Value.ownBlock]; omega))
        have O5 := only_trans (O4) ho
        have hsw5 := (O5).size
        clear ho
        go_wp2_with fail
        ((with_reducible refine (one_any rb _ w5.heap.size 5 5 (fun i => [50, 0, -50, 1000, 200].getD i 0) _ (r5.alloc _) (by omega) (by omega) (by omega) (by omega) (lit_cells [50, 0, -50, 1000, 200] (Blk.new _ _ _) rfl)).mono ?_); rintro e w6 ⟨b, _, rfl, r6, ho⟩)
        have o6 := ((o5).alloc (.cells #[.int .i64 50, .int .i64 0, .int .i64 (-50), .int .i64 1000, .int .i64 200] 3)).kept ho (.inr (by simp [Value.ownBlock]; omega))
        have O6 := only_trans (only_alloc (O5) (.cells #[.int .i64 50, .int .i64 0, .int .i64 (-50), .int .i64 1000, .int .i64 200] 3)) ho
        have hsw6 := (O6).size
        clear ho
        go_wp2_with fail
        ((with_reducible refine (pick_any _ _ _ _ r6 (by omega)).mono ?_); rintro e w7 ⟨z, rfl, hz0, hz1, r7, ho⟩)
        have hz2 := hz1 (by omega)
        clear hz1
        have o7 := (o6).kept ho (.inr (by simp [Value.ownBlock]; omega))
        have O7 := only_trans (O6) ho
        have hsw7 := (O7).size
        clear ho
        clear o2 o4 o5 o6
        rcases hz : (z == 0) with _ | _
        · skip
          have HO := Lib.hid ((o7).alloc (.cells #[.int .i64 (3), .int .i64 (a), .int .i64 (0), .int .i64 (0), .int .i64 (b), .bool false] 78))
          have HB := Lib.hid (Blk.new w7 78 #[.int .i64 (3), .int .i64 (a), .int .i64 (0), .int .i64 (0), .int .i64 (b), .bool false])
          have hbase : w.heap.size ≤ (w7.alloc (.cells #[.int .i64 (3), .int .i64 (a), .int .i64 (0), .int .i64 (0), .int .i64 (b), .bool false] 78)).heap.size := by have := (O7).size; simp; omega
          have hgW := (HO.out.lt g3 rfl).1
          have HRD := Lib.hid (r7)
          go_wp2_with (at_builtin; (refine wpList_append_one _ rfl _ _ 23 rfl w.heap.size 78 j0 _ 6 48 Try.underlying23 ji jz0 jz1 jz2 rfl (by omega) (some ⟨g3, 0, none⟩) (q + 1) c3 ((xs ++ [(⟨1, 2 + x, 0, 0, 0, false⟩ : It)]).flatMap itl) rfl HO.out w7.heap.size (itl (⟨3, a, 0, 0, b, false⟩ : It)) rfl rfl HB.out (itl_one _) (by omega) (by omega) hbase ?_); intro g8 c8 w8 hown9 hgr9; (have HO9 := Lib.hid hown9); (have HG9 := Lib.hid hgr9); clear hown9 hgr9)
          have o8 := OwT.snoc HO9.out
          have r8 := (HRD.out.alloc (.cells #[.int .i64 (3), .int .i64 (a), .int .i64 (0), .int .i64 (0), .int .i64 (b), .bool false] 78)).own HG9.out (by intro x hx; cases hx; simp; omega)
          have O8 := only_own (only_alloc (O7) (.cells #[.int .i64 (3), .int .i64 (a), .int .i64 (0), .int .i64 (0), .int .i64 (b), .bool false] 78)) HG9.out (by intro x hx; cases hx; simp; omega)
          clear HO HB hbase HRD HO9 HG9
          go_wp2_with fail
          go_roundg (m - 1)
          case measure => have := HK.out; omega
          case rel => exact ⟨m - 1, g8, c8, q + 1 + 1, _, xs ++ [(⟨1, 2 + x, 0, 0, 0, false⟩ : It)] ++ [(⟨3, a, 0, 0, b, false⟩ : It)], rfl, by go_num, rfl, by omega, by show List.length _ = _; rw [List.length_append, List.length_append, hxl.out]; rfl, o8, by omega, r8, O8⟩
        · skip
          have HO := Lib.hid ((o7).alloc (.cells #[.int .i64 (3), .int .i64 (a), .int .i64 (0), .int .i64 (0), .int .i64 (b), .bool true] 78))
          have HB := Lib.hid (Blk.new w7 78 #[.int .i64 (3), .int .i64 (a), .int .i64 (0), .int .i64 (0), .int .i64 (b), .bool true])
          have hbase : w.heap.size ≤ (w7.alloc (.cells #[.int .i64 (3), .int .i64 (a), .int .i64 (0), .int .i64 (0), .int .i64 (b), .bool true] 78)).heap.size := by have := (O7).size; simp; omega
          have hgW := (HO.out.lt g3 rfl).1
          have HRD := Lib.hid (r7)
          go_wp2_with (at_builtin; (refine wpList_append_one _ rfl _ _ 23 rfl w.heap.size 78 j0 _ 6 48 Try.underlying23 ji jz0 jz1 jz2 rfl (by omega) (some ⟨g3, 0, none⟩) (q + 1) c3 ((xs ++ [(⟨1, 2 + x, 0, 0, 0, false⟩ : It)]).flatMap itl) rfl HO.out w7.heap.size (itl (⟨3, a, 0, 0, b, true⟩ : It)) rfl rfl HB.out (itl_one _) (by omega) (by omega) hbase ?_); intro g8 c8 w8 hown9 hgr9; (have HO9 := Lib.hid hown9); (have HG9 := Lib.hid hgr9); clear hown9 hgr9)
          have o8 := OwT.snoc HO9.out
          have r8 := (HRD.out.alloc (.cells #[.int .i64 (3), .int .i64 (a), .int .i64 (0), .int .i64 (0), .int .i64 (b), .bool true] 78)).own HG9.out (by intro x hx; cases hx; simp; omega)
          have O8 := only_own (only_alloc (O7) (.cells #[.int .i64 (3), .int .i64 (a), .int .i64 (0), .int .i64 (0), .int .i64 (b), .bool true] 78)) HG9.out (by intro x hx; cases hx; simp; omega)
          clear HO HB hbase HRD HO9 HG9
          go_wp2_with fail
          go_roundg (m - 1)
          case measure => have := HK.out; omega
          case rel => exact ⟨m - 1, g8, c8, q + 1 + 1, _, xs ++ [(⟨1, 2 + x, 0, 0, 0, false⟩ : It)] ++ [(⟨3, a, 0, 0, b, true⟩ : It)], rfl, by go_num, rfl, by omega, by show List.length _ = _; rw [List.length_append, List.length_append, hxl.out]; rfl, o8, by omega, r8, O8⟩
      by_cases y1 : y = 1
      · subst y1
        go_wp2_with fail
        ((with_reducible refine (one_any rb _ w4.heap.size 3 3 (fun i => [-1000, 1000, 10].getD i 0) _ (r4.alloc _) (by omega) (by omega) (by omega) (by omega) (lit_cells [-1000, 1000, 10] (Blk.new _ _ _) rfl)).mono ?_); rintro e w6 ⟨b, _, rfl, r6, ho⟩)
        have o6 := ((o4).alloc (.cells #[.int .i64 (-1000), .int .i64 1000, .int .i64 10] 3)).kept ho (.inr (by simp [Value.ownBlock]; omega))
        have O6 := only_trans (only_alloc (O4) (.cells #[.int .i64 (-1000), .int .i64 1000, .int .i64 10] 3)) ho
        have hsw6 := (O6).size
        clear ho
        clear o2 o4
        have HO := Lib.hid ((o6).alloc (.cells #[.int .i64 (3), .int .i64 (0), .int .i64 (0), .int .i64 (0), .int .i64 (b), .bool false] 78))
        have HB := Lib.hid (Blk.new w6 78 #[.int .i64 (3), .int .i64 (0), .int .i64 (0), .int .i64 (0), .int .i64 (b), .bool false])
        have hbase : w.heap.size ≤ (w6.alloc (.cells #[.int .i64 (3), .int .i64 (0), .int .i64 (0), .int .i64 (0), .int .i64 (b), .bool false] 78)).heap.size := by have := (O6).size; simp; omega
        have hgW := (HO.out.lt g3 rfl).1
        have HRD := Lib.hid (r6)
        go_wp2_with (at_builtin; (refine wpList_append_one _ rfl _ _ 23 rfl w.heap.size 78 j0 _ 6 48 Try.underlying23 ji jz0 jz1 jz2 rfl (by omega) (some ⟨g3, 0, none⟩) (q + 1) c3 ((xs ++ [(⟨1, 2 + x, 0, 0, 0, false⟩ : It)]).flatMap itl) rfl HO.out w6.heap.size (itl (⟨3, 0, 0, 0, b, false⟩ : It)) rfl rfl HB.out (itl_one _) (by omega) (by omega) hbase ?_); intro g8 c8 w8 hown9 hgr9; (have HO9 := Lib.hid hown9); (have HG9 := Lib.hid hgr9); clear hown9 hgr9)
        have o8 := OwT.snoc HO9.out
        have r8 := (HRD.out.alloc (.cells #[.int .i64 (3), .int .i64 (0), .int .i64 (0), .int .i64 (0), .int .i64 (b), .bool false] 78)).own HG9.out (by intro x hx; cases hx; simp; omega)
        have O8 := only_own (only_alloc (O6) (.cells #[.int .i64 (3), .int .i64 (0), .int .i64 (0), .int .i64 (0), .int .i64 (b), .bool false] 78)) HG9.out (by intro x hx; cases hx; simp; omega)
        clear HO HB hbase HRD HO9 HG9
        go_wp2_with fail
        go_roundg (m - 1)
        case measure => have := HK.out; omega
        case rel => exact ⟨m - 1, g8, c8, q + 1 + 1, _, xs ++ [(⟨1, 2 + x, 0, 0, 0, false⟩ : It)] ++ [(⟨3, 0, 0, 0, b, false⟩ : It)], rfl, by go_num, rfl, by omega, by show List.length _ = _; rw [List.length_append, List.length_append, hxl.out]; rfl, o8, by omega, r8, O8⟩
      · have y0' : (y == 0) = false := by simp; omega
        have y1' : (y == 1) = false := by simp; omega
        go_wp2_with fail
        ((with_reducible refine (pick_any _ _ _ _ r4 (by omega)).mono ?_); rintro e w5 ⟨a, rfl, ha0, ha1, r5, ho⟩)
        have ha2 := ha1 (by omega)
        clear ha1
        have o5 := (o4).kept ho (.inr (by simp [Value.ownBlock]; omega))
        have O5 := only_trans (O4) ho
        have hsw5 := (O5).size
        clear ho
        go_wp2_with fail
        ((with_reducible refine (pick_any _ _ _ _ r5 (by omega)).mono ?_); rintro e w6 ⟨b, rfl, hb0, hb1, r6, ho⟩)
        have hb2 := hb1 (by omega)
        clear hb1
        have o6 := (o5).kept ho (.inr (by simp [Value.ownBlock]; omega))
        have O6 := only_trans (O5) ho
        have hsw6 := (O6).size
        clear ho
        go_wp2_with fail
        ((with_reducible refine (pick_any _ _ _ _ r6 (by omega)).mono ?_); rintro e w7 ⟨z, rfl, hz0, hz1, r7, ho⟩)
        have hz2 := hz1 (by omega)
        clear hz1
        have o7 := (o6).kept ho (.inr (by simp [Value.ownBlock]; omega))
        have O7 := only_trans (O6) ho
        have hsw7 := (O7).size
        clear ho
        clear o2 o4 o5 o6
        have HO := Lib.hid ((o7).alloc (.cells #[.int .i64 (2), .int .i64 (2 + a), .int .i64 (b), .int .i64 (z), .int .i64 (0), .bool false] 78))
        have HB := Lib.hid (Blk.new w7 78 #[.int .i64 (2), .int .i64 (2 + a), .int .i64 (b), .int .i64 (z), .int .i64 (0), .bool false])
        have hbase : w.heap.size ≤ (w7.alloc (.cells #[.int .i64 (2), .int .i64 (2 + a), .int .i64 (b), .int .i64 (z), .int .i64 (0), .bool false] 78)).heap.size := by have := (O7).size; simp; omega
        have hgW := (HO.out.lt g3 rfl).1
        have HRD := Lib.hid (r7)
        go_wp2_with (at_builtin; (refine wpList_append_one _ rfl _ _ 23 rfl w.heap.size 78 j0 _ 6 48 Try.underlying23 ji jz0 jz1 jz2 rfl (by omega) (some ⟨g3, 0, none⟩) (q + 1) c3 ((xs ++ [(⟨1, 2 + x, 0, 0, 0, false⟩ : It)]).flatMap itl) rfl HO.out w7.heap.size (itl (⟨2, 2 + a, b, z, 0, false⟩ : It)) rfl rfl HB.out (itl_one _) (by omega) (by omega) hbase ?_); intro g8 c8 w8 hown9 hgr9; (have HO9 := Lib.hid hown9); (have HG9 := Lib.hid hgr9); clear hown9 hgr9)
        have o8 := OwT.snoc HO9.out
        have r8 := (HRD.out.alloc (.cells #[.int .i64 (2), .int .i64 (2 + a), .int .i64 (b), .int .i64 (z), .int .i64 (0), .bool false] 78)).own HG9.out (by intro x hx; cases hx; simp; omega)
        have O8 := only_own (only_alloc (O7) (.cells #[.int .i64 (2), .int .i64 (2 + a), .int .i64 (b), .int .i64 (z), .int .i64 (0), .bool false] 78)) HG9.out (by intro x hx; cases hx; simp; omega)
        clear HO HB hbase HRD HO9 HG9
        go_wp2_with fail
        go_roundg (m - 1)
        case measure => have := HK.out; omega
        case rel => exact ⟨m - 1, g8, c8, q + 1 + 1, _, xs ++ [(⟨1, 2 + x, 0, 0, 0, false⟩ : It)] ++ [(⟨2, 2 + a, b, z, 0, false⟩ : It)], rfl, by go_num, rfl, by omega, by show List.length _ = _; rw [List.length_append, List.length_append, hxl.out]; rfl, o8, by omega, r8, O8⟩
    · have hownr := hown.out
      clear hown
      go_wp2_with fail
      ((with_reducible refine (pick_any _ _ _ _ hrd (by omega)).mono ?_); rintro e w2 ⟨x, rfl, hx0, hx1, r2, ho⟩)
      have hx2 := hx1 (by omega)
      clear hx1
      have o2 := (hownr).kept ho (.inr (by simp [Value.ownBlock]; omega))
      have O2 := only_trans (hO) ho
      have hsw2 := (O2).size
      clear ho
      by_cases hx : 0 < x
      · have HO := Lib.hid (o2.alloc (.cells #[.int .i64 3, .int .i64 0, .int .i64 0, .int .i64 0, .int .i64 1000, .bool false, .int .i64 2, .int .i64 0, .int .i64 1000, .int .i64 0, .int .i64 0, .bool false] 78))
        have HB := Lib.hid (Blk.new w2 78 #[.int .i64 3, .int .i64 0, .int .i64 0, .int .i64 0, .int .i64 1000, .bool false, .int .i64 2, .int .i64 0, .int .i64 1000, .int .i64 0, .int .i64 0, .bool false])
        have HB2 : Hid ((w2.alloc (.cells #[.int .i64 3, .int .i64 0, .int .i64 0, .int .i64 0, .int .i64 1000, .bool false, .int .i64 2, .int .i64 0, .int .i64 1000, .int .i64 0, .int .i64 0, .bool false] 78)).ownsRow w2.heap.size 78 6 (.slice (some ⟨w2.heap.size, 0, none⟩) 2 2) 2 (itl (⟨3, 0, 0, 0, 1000, false⟩ : It) ++ itl (⟨2, 0, 1000, 0, 0, false⟩ : It))) := ⟨rfl, .inr ⟨w2.heap.size, 2, _, rfl, Nat.le_refl _, HB.out, Nat.le_refl _, by unfold maxLen; omega, rfl, rfl⟩⟩
        have hbase : w.heap.size ≤ (w2.alloc (.cells #[.int .i64 3, .int .i64 0, .int .i64 0, .int .i64 0, .int .i64 1000, .bool false, .int .i64 2, .int .i64 0, .int .i64 1000, .int .i64 0, .int .i64 0, .bool false] 78)).heap.size := by have := O2.size; simp; omega
        have hgW := (HO.out.lt g rfl).1
        have HRD := Lib.hid r2
        go_wp2_with (first | (at_builtin; (refine wpList_append_two _ rfl _ _ 23 rfl w.heap.size 78 j0 _ 6 48 Try.underlying23 ji jz0 jz1 jz2 rfl (by omega) g q c' (xs.flatMap itl) rfl HO.out w2.heap.size 2 2 w2.heap.size (itl (⟨3, 0, 0, 0, 1000, false⟩ : It) ++ itl (⟨2, 0, 1000, 0, 0, false⟩ : It)) rfl HB2.out (itl_two _ _) (by omega) (by omega) hbase ?_); intro g3 c3 w3 hown9 hgr9; (have HO9 := Lib.hid hown9); (have HG9 := Lib.hid hgr9); (have o3 := OwT.snoc2 hown9); (have O3 := only_own (A := some ⟨g, 0, none⟩) (n := q) (m := c') (only_alloc O2 (.cells #[.int .i64 3, .int .i64 0, .int .i64 0, .int .i64 0, .int .i64 1000, .bool false, .int .i64 2, .int .i64 0, .int .i64 1000, .int .i64 0, .int .i64 0, .bool false] 78)) hgr9 (by intro x hx; cases hx; simp; omega)); (have HOL := Lib.hid (o3.alloc (.cells #[.int .i64 (3), .int .i64 (0), .int .i64 (0), .int .i64 (0), .int .i64 (-1000), .bool false] 78))); (have HBL := Lib.hid (Blk.new w3 78 #[.int .i64 (3), .int .i64 (0), .int .i64 (0), .int .i64 (0), .int .i64 (-1000), .bool false])); (have hbl : w.heap.size ≤ (w3.alloc (.cells #[.int .i64 (3), .int .i64 (0), .int .i64 (0), .int .i64 (0), .int .i64 (-1000), .bool false] 78)).heap.size := by have := O3.size; simp; omega); clear hown9 hgr9 o3) | (at_builtin; (refine wpList_append_one _ rfl _ _ 23 rfl w.heap.size 78 j0 _ 6 48 Try.underlying23 ji jz0 jz1 jz2 rfl (by omega) (some ⟨g3, 0, none⟩) (q + 2) c3 ((xs ++ [(⟨3, 0, 0, 0, 1000, false⟩ : It), (⟨2, 0, 1000, 0, 0, false⟩ : It)]).flatMap itl) rfl HOL.out w3.heap.size (itl (⟨3, 0, 0, 0, -1000, false⟩ : It)) rfl rfl HBL.out (itl_one _) (by omega) (by omega) hbl ?_); intro g4 c4 w4 hown4 hgr4; (have HO4 := Lib.hid hown4); (have HG4 := Lib.hid hgr4); clear hown4 hgr4))
        go_ret
        have r3 := (HRD.out.alloc (.cells #[.int .i64 3, .int .i64 0, .int .i64 0, .int .i64 0, .int .i64 1000, .bool false, .int .i64 2, .int .i64 0, .int .i64 1000, .int .i64 0, .int .i64 0, .bool false] 78)).own (A := some ⟨g, 0, none⟩) (n := q) (m := c') HG9.out (by intro x hx; cases hx; simp; omega)
        have hg3 := (HOL.out.lt g3 rfl).1
        exact ⟨g4, q + 2 + 1, c4, xs ++ [(⟨3, 0, 0, 0, 1000, false⟩ : It), (⟨2, 0, 1000, 0, 0, false⟩ : It)] ++ [(⟨3, 0, 0, 0, -1000, false⟩ : It)], _, rfl, by rw [List.length_append, List.length_append, hxl.out]; rfl, ⟨by omega, by omega⟩, OwT.snoc HO4.out, by omega, (r3.alloc _).own HG4.out (by intro x hx; cases hx; simp; omega), only_own (only_alloc O3 _) HG4.out (by intro x hx; cases hx; simp; omega)⟩
      · have hx0' : x ≤ 0 := by omega
        have HO := Lib.hid ((o2).alloc (.cells #[.int .i64 (3), .int .i64 (0), .int .i64 (0), .int .i64 (0), .int .i64 (-1000), .bool false] 78))
        have HB := Lib.hid (Blk.new w2 78 #[.int .i64 (3), .int .i64 (0), .int .i64 (0), .int .i64 (0), .int .i64 (-1000), .bool false])
        have hbase : w.heap.size ≤ (w2.alloc (.cells #[.int .i64 (3), .int .i64 (0), .int .i64 (0), .int .i64 (0), .int .i64 (-1000), .bool false] 78)).heap.size := by have := (O2).size; simp; omega
        have hgW := (HO.out.lt g rfl).1
        have HRD := Lib.hid (r2)
        go_wp2_with (at_builtin; (refine wpList_append_one _ rfl _ _ 23 rfl w.heap.size 78 j0 _ 6 48 Try.underlying23 ji jz0 jz1 jz2 rfl (by omega) (some ⟨g, 0, none⟩) (q) c' ((xs).flatMap itl) rfl HO.out w2.heap.size (itl (⟨3, 0, 0, 0, -1000, false⟩ : It)) rfl rfl HB.out (itl_one _) (by omega) (by omega) hbase ?_); intro g3 c3 w3 hown9 hgr9; (have HO9 := Lib.hid hown9); (have HG9 := Lib.hid hgr9); clear hown9 hgr9)
        have o3 := OwT.snoc HO9.out
        have r3 := (HRD.out.alloc (.cells #[.int .i64 (3), .int .i64 (0), .int .i64 (0), .int .i64 (0), .int .i64 (-1000), .bool false] 78)).own HG9.out (by intro x hx; cases hx; simp; omega)
        have O3 := only_own (only_alloc (O2) (.cells #[.int .i64 (3), .int .i64 (0), .int .i64 (0), .int .i64 (0), .int .i64 (-1000), .bool false] 78)) HG9.out (by intro x hx; cases hx; simp; omega)
        clear HO HB hbase HRD HO9 HG9
        go_ret
        exact ⟨g3, q + 1, c3, xs ++ [(⟨3, 0, 0, 0, -1000, false⟩ : It)], _, rfl, by rw [List.length_append, hxl.out]; rfl, ⟨by omega, by omega⟩, o3, by omega, r3, O3⟩
end Go.Proofs.Ytkmipgekmbngcaa
