/- The generators of lines, a height and ends of pages. Conditions: the code is a slice of bytes. -/
import Derived.Test.YticdgpgbpgjnbaaLinesDraw
import Derived.Test.YticdgpgbpgjnbaaEndsDraw
import Derived.Test.YticdgpgbpgjnbaaBestS
namespace Go.Proofs.Yticdgpgbpgjnbaa
open Go.RowKit

/-- What a search leaves whose result is known. -/
def BOut (w : World) (ys : List Int) (v : Int) (ok : Bool) (m : Nat) (e : Ending) (w' : World) : Prop := ∃ (A : Option Addr) (d : Nat), e = .returned (.tuple #[.slice A m d, .int .i64 v, .bool ok]) ∧ OwnI w' w.heap.size A m d ys ∧ Below w.heap.size w w'
theorem bout_of {w : World} {ys : List Int} {v : Int} {ok : Bool} {m : Nat} {r : List Int × Int × Bool} (hr : r = (ys, v, ok)) (hm : ys.length = m) {e : Ending} {w' : World} (h : PathOut w r e w') : BOut w ys v ok m e w' := by
  subst hr
  obtain ⟨A, d, h1, h2, h3⟩ := h
  simp only at h1 h2
  rw [hm] at h1 h2
  exact ⟨A, d, h1, h2, h3⟩
def NumOut (w : World) (rb p : Nat) (lo hi : Int) (e : Ending) (w' : World) : Prop := ∃ v : Int, e = .returned (.int .i64 v) ∧ (lo ≤ v ∧ v ≤ hi) ∧ Rd w' rb (p + 1) ∧ w.grownBy w' (some rb)
theorem pageSize_any (rb p : Nat) (w : World) (h : Rd w rb p) (hp : p ≤ 1125899906842624) : Calls Try.prog 55 #[.pointer (some ⟨rb, 0, none⟩)] w (NumOut w rb p 0 10001) := by
  have hl := h.lt
  go_enter Try.func55, Try.ntmps55
  go_wp2_with fail
  ((with_reducible refine (one_any _ _ w.heap.size 9 9 (fun i => [12, 15, 20, 30, 9, 6, 50, 0, 10001].getD i 0) _ (h.alloc _) hp hl (by omega) (by omega) (lit_cells [12, 15, 20, 30, 9, 6, 50, 0, 10001] (Blk.new _ _ _) rfl)).mono ?_); rintro e w3 ⟨v, hv, rfl, hr3, ho3⟩)
  have hv' := lit_bound [12, 15, 20, 30, 9, 6, 50, 0, 10001] 0 10001 (by decide) (by decide) hv
  clear hv
  go_wp2_with fail
  go_ret
  exact ⟨v, rfl, hv', hr3, only_trans (only_alloc (only_refl w rb) _) ho3⟩

def LinesNumOut (w : World) (e : Ending) (w' : World) : Prop :=
  ∃ (g n c : Nat) (xs : List Ln) (h : Int), e = .returned (.tuple #[.slice (some ⟨g, 0, none⟩) n c, .int .i64 h]) ∧ xs.length = n ∧ n ≤ 12 ∧ (n ≤ c ∧ c ≤ maxLen) ∧ (0 ≤ h ∧ h ≤ 10001) ∧ Row w' w'.heap.size 3 (some ⟨g, 0, none⟩) n (lnc xs) ∧ Below w.heap.size w w'
set_option maxHeartbeats 1000000 in
theorem DrawBestPages_any (A : Option Addr) (n cap : Nat) (cs : List Int) (w : World) (hc : Code w A n cap cs) :
    Calls Try.prog 34 #[.slice A n cap] w (LinesNumOut w) := by
  obtain ⟨h1, h2, h3, h4, h5⟩ := hc
  have HH := Lib.hid h4; clear h4
  go_enter Try.func34, Try.ntmps34
  go_wp2_with fail
  ((with_reducible refine (newReader_any _ _ _ cs _ h1 h2 h3 HH.out h5).mono ?_); rintro e w1 ⟨rfl, hr1, hb1⟩)
  have hs1 := hb1.size
  go_wp2_with fail
  ((with_reducible refine (anyLines_any _ _ _ hr1 (by omega)).mono ?_); rintro e w2 ⟨g, m, c, xs, p', rfl, hx, ⟨_, hm⟩, hown, hp, hr2, ho2⟩)
  have HX := Lib.hid hx; clear hx
  have hb2 : Below w.heap.size w w2 := hb1.trans (below_of_only ho2 (Nat.le_refl _) hs1)
  have hs2 := hb2.size
  have hgb := (hown.lt g rfl).1
  have hl1 := hr1.lt
  have hcp := own_cap hown
  have HCP := Lib.hid hcp; clear hcp
  go_wp2_with fail
  ((with_reducible refine (pageSize_any _ _ _ hr2 (by omega)).mono ?_); rintro e w3 ⟨v, rfl, hv, hr3, ho3⟩)
  have hb3 : Below w.heap.size w w3 := hb2.trans (below_of_only ho3 (Nat.le_refl _) hs2)
  have hown3 := hown.kept ho3 (.inr (by simp [Value.ownBlock]; omega))
  have hrow : Row w3 w3.heap.size 3 (some ⟨g, 0, none⟩) m (lnc xs) := Row.owned hown3 fun i q hi hq => lnl_at i q (by rw [HX.out]; exact hi) hq
  have HRow := Lib.hid hrow
  clear hown hown3 hrow
  go_wp2_with fail
  go_ret2
  exact ⟨g, m, c, xs, v, rfl, HX.out, hm, ⟨HCP.out.1, HCP.out.2.1⟩, hv, HRow.out, hb3⟩
theorem DrawFillPages_any (A : Option Addr) (n cap : Nat) (cs : List Int) (w : World) (hc : Code w A n cap cs) :
    Calls Try.prog 32 #[.slice A n cap] w (LinesNumOut w) := by
  go_enter Try.func32, Try.ntmps32
  go_wp2_with fail
  ((with_reducible refine (DrawBestPages_any _ _ _ cs _ hc).mono ?_); rintro e w1 ⟨g, m, c, xs, h, rfl, hr⟩)
  go_wp2_with fail
  go_ret2
  exact ⟨g, m, c, xs, h, rfl, hr⟩

def LinesEndsOut (w : World) (e : Ending) (w' : World) : Prop :=
  ∃ (g n c : Nat) (xs : List Ln) (h : Int) (B : Option Addr) (m d : Nat) (ys : List Int), e = .returned (.tuple #[.slice (some ⟨g, 0, none⟩) n c, .int .i64 h, .slice B m d]) ∧ xs.length = n ∧ n ≤ 12 ∧ (n ≤ c ∧ c ≤ maxLen) ∧ (0 ≤ h ∧ h ≤ 10001) ∧ Row w' w'.heap.size 3 (some ⟨g, 0, none⟩) n (lnc xs) ∧
    ys.length = m ∧ m ≤ 60 ∧ Row w' w'.heap.size 1 B m (inc ys) ∧ Below w.heap.size w w'
set_option maxHeartbeats 2000000 in
theorem DrawCheckPages_any (A : Option Addr) (n cap : Nat) (cs : List Int) (w : World) (hc : Code w A n cap cs) :
    Calls Try.prog 37 #[.slice A n cap] w (LinesEndsOut w) := by
  obtain ⟨j0, ji, jz0, jz1, jz2⟩ := info_parts int_info
  obtain ⟨h1, h2, h3, h4, h5⟩ := hc
  have HH := Lib.hid h4; clear h4
  go_enter Try.func37, Try.ntmps37
  go_wp2_with fail
  ((with_reducible refine (newReader_any _ _ _ cs _ h1 h2 h3 HH.out h5).mono ?_); rintro e w1 ⟨rfl, hr1, hb1⟩)
  have hs1 := hb1.size
  go_wp2_with fail
  ((with_reducible refine (anyLines_any _ _ _ hr1 (by omega)).mono ?_); rintro e w2 ⟨g, m, c, xs, p', rfl, hx, ⟨_, hm⟩, hown, hp, hr2, ho2⟩)
  have HX := Lib.hid hx; clear hx
  have hb2 : Below w.heap.size w w2 := hb1.trans (below_of_only ho2 (Nat.le_refl _) hs1)
  have hs2 := hb2.size
  have hgb := (hown.lt g rfl).1
  have hl1 := hr1.lt
  have hcp := own_cap hown
  have HCP := Lib.hid hcp; clear hcp
  go_wp2_with fail
  ((with_reducible refine (pageSize_any _ _ _ hr2 (by omega)).mono ?_); rintro e w3 ⟨h, rfl, hv, hr3, ho3⟩)
  have hb3 : Below w.heap.size w w3 := hb2.trans (below_of_only ho3 (Nat.le_refl _) hs2)
  have hs3 := hb3.size
  have hown3 := hown.kept ho3 (.inr (by simp [Value.ownBlock]; omega))
  have hrow : Row w3 w3.heap.size 3 (some ⟨g, 0, none⟩) m (lnc xs) := Row.owned hown3 fun i q hi hq => lnl_at i q (by rw [HX.out]; exact hi) hq
  have HOW3 := Lib.hid hown3
  have HRow := Lib.hid hrow
  have hmx : m ≤ maxLen := by unfold maxLen; omega
  obtain ⟨⟨ys, v, ok⟩, hr⟩ : ∃ r, bestV xs h = r := ⟨_, rfl⟩
  obtain ⟨q, hq⟩ : ∃ q, ys.length = q := ⟨_, rfl⟩
  have hq40 := bestV_len xs h
  rw [hr] at hq40
  simp only [hq] at hq40
  have hpos : ok = true → 0 < q := by
    rintro rfl
    have hck := (best_check HX.out hr).2.2
    have hl := linesOk_len (paging_iff (best_check HX.out hr).1).1
    rcases Nat.eq_zero_or_pos q with h0 | h0
    · have : ys = [] := List.eq_nil_of_length_eq_zero (by omega)
      subst this
      have e : some ((0 : Nat), (0 : Int)) = some (m, v) := hck
      cases e
      have := HX.out
      omega
    · exact h0
  have HBR := Lib.hid hr
  have HQ := Lib.hid hq
  have HPOS := Lib.hid hpos
  clear hown hown3 hrow hr hq hpos
  go_wp2_with fail
  ((with_reducible refine ((best_s _ _ _ h xs _ HX.out hmx ?_).mono fun _ _ h => bout_of HBR.out HQ.out h).mono ?_); (exact HRow.out); rintro e w4 ⟨B, d, rfl, hown4, hb4⟩)
  have hr4 := hr3.below hb4 (by have := hr3.lt; omega)
  have hB4 := below_then (Nat.le_refl _) hb3 hb4
  have hs4 := hB4.size
  have hz4 := hb4.size
  have HR4 := Lib.hid (HRow.out.then_ hb4)
  have HO4 := Lib.hid hown4
  have hgl := (HOW3.out.lt g rfl).2
  clear hown4
  rcases ok with _ | _
  · go_wp2_with fail
    ((with_reducible refine (someEnds_any _ _ m _ hr4 (by omega) (by omega)).mono ?_); rintro e w5 ⟨B5, m5, c5, zs, p5, rfl, hy, hm5, _, hrow5, _, _, hr5, ho5⟩)
    have hb5 : Below w.heap.size w w5 := hB4.trans (below_of_only ho5 (Nat.le_refl _) hs4)
    have HR5 := Lib.hid ((HR4.out.only ho5 (by intro x hx; cases hx; simp; omega) (Nat.le_refl _)).more ho5.size)
    go_wp2_with fail
    (first | go_returns | (refine bodyPost_ret (by simp [results, Try.results37, go_sem, *]; try rfl) rfl ?_))
    exact ⟨g, m, c, xs, h, B5, m5, c5, zs, rfl, HX.out, hm, ⟨HCP.out.1, HCP.out.2.1⟩, hv, HR5.out, hy, hm5, hrow5, hb5⟩
  · go_wp2_with fail
    ((with_reducible refine (pick_any _ _ _ _ hr4 (by omega)).mono ?_); rintro e w5 ⟨x, rfl, hx0, hx1, hr5, ho5⟩)
    have hb5 : Below w.heap.size w w5 := hB4.trans (below_of_only ho5 (Nat.le_refl _) hs4)
    have hs5 := hb5.size
    have hz5 := ho5.size
    have HR5 := Lib.hid ((HR4.out.only ho5 (by intro x hx; cases hx; simp; omega) (Nat.le_refl _)).more ho5.size)
    obtain ⟨gb, hB⟩ : ∃ gb, B = some ⟨gb, 0, none⟩ := by
      rcases HO4.out.2 with ⟨hv, h0⟩ | ⟨gb, cap, cur, hv, _⟩
      · have := HPOS.out (by simp); omega
      · injection hv with hv _ _; exact ⟨gb, hv⟩
    subst hB
    have hblk := HO4.out.blk _ rfl
    simp only at hblk
    have HO5 := Lib.hid (World.ownsRow.kept HO4.out ho5 (.inr (by simp [Value.ownBlock]; omega)))
    clear hx1
    by_cases x0 : x = 0
    · subst x0
      have HE := Lib.hid (owns_nil _ w5.heap.size 3 1 0 _ _ (Blk.new w5 3 #[]) (Nat.le_refl _) (by unfold maxLen; omega) rfl)
      have HO6 := Lib.hid (World.ownsRow.alloc HO5.out (.cells #[] 3))
      have HS := Lib.hid (show w5.heap.size ≤ (w5.alloc (.cells #[] 3)).heap.size by simp)
      go_wp2_with (at_builtin; (refine wpList_append_two _ rfl _ _ 37 rfl w5.heap.size 3 j0 _ 1 8 Try.underlying37 ji jz0 jz1 jz2 rfl (by omega) w5.heap.size 0 0 [] rfl HE.out gb q d _ (inl ys) rfl HO6.out (inl_one _) (by omega) (by omega) HS.out ?_); intro g' d' w6 hown6 hgr6)
      have hb6 : Below w5.heap.size w5 w6 := ((Below.refl _ _).alloc (Nat.le_refl _) _).grown hgr6 (by simp) (fun k hk => by injection hk; omega)
      have h6 := hown6
      rw [Nat.zero_add, List.nil_append] at h6
      have HO7 := Lib.hid (show OwnI w6 w5.heap.size (some ⟨g', 0, none⟩) q d' ys from h6)
      have HR6 := Lib.hid (HR5.out.then_ hb6)
      clear hown6 hgr6 h6
      go_wp2_with fail
      (first | go_returns | (refine bodyPost_ret (by simp [results, Try.results37, go_sem, *]; try rfl) rfl ?_))
      exact ⟨g, m, c, xs, h, some ⟨g', 0, none⟩, q, d', ys, rfl, HX.out, hm, ⟨HCP.out.1, HCP.out.2.1⟩, hv, HR6.out, HQ.out, by omega, HO7.out.row, hb5.trans (hb6.mono hs5)⟩
    · have y0 : (x == 0) = false := by simp; omega
      go_wp2_with fail
      ((with_reducible refine (someEnds_any _ _ m _ hr5 (by omega) (by omega)).mono ?_); rintro e w6 ⟨B6, m6, c6, zs, p6, rfl, hy, hm6, _, hrow6, _, _, hr6, ho6⟩)
      have hb6 : Below w.heap.size w w6 := hb5.trans (below_of_only ho6 (Nat.le_refl _) hs5)
      have HR6 := Lib.hid ((HR5.out.only ho6 (by intro x hx; cases hx; simp; omega) (Nat.le_refl _)).more ho6.size)
      go_wp2_with fail
      (first | go_returns | (refine bodyPost_ret (by simp [results, Try.results37, go_sem, *]; try rfl) rfl ?_))
      exact ⟨g, m, c, xs, h, B6, m6, c6, zs, rfl, HX.out, hm, ⟨HCP.out.1, HCP.out.2.1⟩, hv, HR6.out, hy, hm6, hrow6, hb6⟩
end Go.Proofs.Yticdgpgbpgjnbaa
