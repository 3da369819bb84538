/- A slice that holds the marks 1, 2, .. is held. Conditions: the slice reads as the marks. -/
import Derived.Test.YtkmipgekmbngcaaMSb3
import Derived.Test.YtkmipgekmbngcaaMSb2
import Derived.Test.YtkmipgekmbngcaaMSb5
namespace Go.Proofs.Ytkmipgekmbngcaa
open Go.RowKit

theorem heldIntS_any (A : Option Addr) (n c : Nat) (w : World) (hm : n ≤ 9223372036854775806) (hr : Row w w.heap.size 1 A n (inc (marks n))) :
    Calls Try.prog 33 #[.slice A n c, .int .i64 1] w fun e w' => e = .returned (.int .i64 (n + 1)) ∧ Below w.heap.size w w' := by
  go_enter Try.func33, Try.ntmps33
  go_wp2_with fail
  go_loopg [1, 5] n (fun k r i wr => ∃ j : Nat, j ≤ n ∧ k = n - j ∧ i = .int .i64 j ∧ r = .int .i64 ((j : Int) + 1) ∧ Below w.heap.size w wr)
  case atStart => exact ⟨0, Nat.zero_le _, rfl, rfl, by go_num, Below.refl _ _⟩
  case round =>
    obtain ⟨j, hj, hk, rfl, rfl, hbel⟩ := hrel
    have HK := Lib.hid hk; clear hk
    have hsz := hbel.size
    by_cases hlt : j < n
    · obtain ⟨b, off, rfl, hb, hc⟩ := hr.at1 (by omega)
      have c0 : wr.cell? ⟨b, off + j, none⟩ = _ := (hbel.cell (p := ⟨b, off + j, none⟩) hb).trans (hc j hlt)
      have e0 : (marks n).getD j default = (j : Int) + 1 := marks_at hlt
      simp only [inc, e0] at c0
      clear hc e0
      go_wp2_with fail
      go_roundg (n - (j + 1))
      case measure => have := HK.out; omega
      case rel => exact ⟨j + 1, by omega, rfl, by go_num, by go_num, by (repeat' (first | (with_reducible exact Below.refl _ _) | (with_reducible assumption) | (with_reducible refine Below.alloc ?_ ?_ _) | (with_reducible refine Below.drew ?_) | (with_reducible refine below_drewN ?_ _) | (with_reducible refine Below.setCell ?_ ?_ _) | (with_reducible refine below_then ?_ ?_ (by with_reducible assumption)) | (with_reducible exact Nat.le_refl _) | go_size | (simp only [*]; done)))⟩
    · go_wp2_with fail
      go_ret
      have ej : j = n := by omega
      subst ej
      exact ⟨rfl, hbel⟩
end Go.Proofs.Ytkmipgekmbngcaa
/- A slice of items that came in reads as a list of items. -/
namespace Go.Proofs.Ytkmipgekmbngcaa
open Go.ChangeShapes Go.WideShapes Go.ChangeAt Go.RowKit Go.Joins Go.Deep

section
variable {H : Type} {enc : TypeId × Value → H} {w : World} {spare : Nat → Bool} {held : Bool}
set_option maxRecDepth 100000 in
theorem open_items {A : Option Addr} {n cap : Nat} {d : DataW H} {p : List MemPlace} (h : DataW.Trod enc Try.prog w 0 spare held 41 (.slice A n cap) d p) :
    ∃ xs : List It, xs.length = n ∧ n ≤ maxLen ∧ Row w w.heap.size 6 A n (itc xs) := by
  obtain ⟨fuel, hf⟩ := h
  have k1 : Try.prog.cellsOf 3 = 1 := by kernel_rfl
  have k3 : Try.prog.cellsOf 80 = 3 := by kernel_rfl
  have k4 : Try.prog.cellsOf 4 = 1 := by kernel_rfl
  obtain ⟨hn, xs, hl, _, hr⟩ := open_rowsE (sz := 6) Try.underlying41 (by omega) (by kernel_rfl) itv (fun _ => True) (fun k cs' y hcl ht => by
    obtain ⟨y0, y1, y2, y3, m1, _, _, t0, t1, t2, t3⟩ := trod_struct4 Try.underlying82 ht
    obtain ⟨z0, z1, z2, m2, _, _, u0, u1, u2⟩ := trod_struct3 Try.underlying80 t1
    match cs', hcl with
    | [c0, c1, c2, c3, c4, c5], _ =>
      obtain ⟨x0, e0, _⟩ := DataW.trod_int Try.underlying3 t0
      obtain ⟨x1, e1, _⟩ := DataW.trod_int Try.underlying3 u0
      obtain ⟨x2, e2, _⟩ := DataW.trod_int Try.underlying3 u1
      obtain ⟨x3, e3, _⟩ := DataW.trod_int Try.underlying3 u2
      obtain ⟨x4, e4, _⟩ := DataW.trod_int Try.underlying3 t2
      obtain ⟨x5, e5, _⟩ := DataW.trod_bool Try.underlying4 t3
      refine ⟨⟨x0, x1, x2, x3, x4, x5⟩, trivial, fun j hj => ?_⟩
      have f0 : c0 = .int .i64 x0 := by simpa [k1, k3, k4] using e0
      have f1 : c1 = .int .i64 x1 := by simpa [k1, k3, k4] using e1
      have f2 : c2 = .int .i64 x2 := by simpa [k1, k3, k4] using e2
      have f3 : c3 = .int .i64 x3 := by simpa [k1, k3, k4] using e3
      have f4 : c4 = .int .i64 x4 := by simpa [k1, k3, k4] using e4
      have f5 : c5 = .bool x5 := by simpa [k1, k3, k4] using e5
      subst f0 f1 f2 f3 f4 f5
      match j, hj with
      | 0, _ => rfl
      | 1, _ => rfl
      | 2, _ => rfl
      | 3, _ => rfl
      | 4, _ => rfl
      | 5, _ => rfl) hf
  exact ⟨xs, hl, hn, hr⟩
end
end Go.Proofs.Ytkmipgekmbngcaa
/- A slice of numbers of the call's own is marked k, k + 1, ..; and read again. Conditions: small numbers. -/
namespace Go.Proofs.Ytkmipgekmbngcaa
open Go.RowKit

/-- The marks k, k + 1, .. -/
def marksK (k : Int) (n : Nat) : List Int := (List.range n).map fun (i : Nat) => k + (i : Int)
theorem marksK_len (k : Int) (n : Nat) : (marksK k n).length = n := by simp [marksK]
theorem marksK_at {k : Int} {n i : Nat} (h : i < n) : (marksK k n).getD i default = k + (i : Int) := by
  rw [List.getD_eq_getElem?_getD, marksK, List.getElem?_map, List.getElem?_range h]; rfl
def markTK (k : Int) (xs : List Int) (j : Nat) : List Int := marksK k j ++ xs.drop j
theorem markTK_set {k : Int} {xs : List Int} {n j : Nat} (h : xs.length = n) (hj : j < n) : (markTK k xs j).set j (k + (j : Int)) = markTK k xs (j + 1) := by
  unfold markTK
  rw [List.set_append_right _ _ (by rw [marksK_len]; omega), marksK_len, Nat.sub_self]
  have e : marksK k (j + 1) = marksK k j ++ [k + (j : Int)] := by simp [marksK, List.range_succ]
  rw [e, List.drop_eq_getElem_cons (by omega), List.append_assoc]
  rfl
theorem markTK_full {k : Int} {xs : List Int} {n : Nat} (h : xs.length = n) : markTK k xs n = marksK k n := by
  unfold markTK
  rw [List.drop_of_length_le (by omega), List.append_nil]

theorem markIntS_k (k : Int) (A : Option Addr) (n c base : Nat) (xs : List Int) (w : World) (hm : n ≤ 2097152) (k0 : 0 ≤ k) (k1 : k ≤ 1000000000) (h : OwnI w base A n c xs) :
    Calls Try.prog 32 #[.slice A n c, .int .i64 k] w fun e w' => e = .returned (.int .i64 (k + n)) ∧ OwnI w' base A n c (marksK k n) ∧ w.grownBy w' (Value.ownBlock (.slice A n c)) := by
  have hn := h.len
  rcases h.2 with ⟨hv, h0⟩ | ⟨g, cap, cur, hv, hbg, hgg, hnc, hcm, _⟩
  · cases hv
    clear hn
    go_enter Try.func32, Try.ntmps32
    go_wp2_with fail
    go_loopg [1, 5] 0 (fun _ r i wr => i = .int .i64 0 ∧ r = .int .i64 k ∧ w.grownBy wr (Value.ownBlock (.slice none 0 0)))
    case atStart => exact ⟨rfl, rfl, rfl, rfl, rfl, Nat.le_refl _, fun _ _ _ => rfl⟩
    case round =>
      obtain ⟨rfl, rfl, hg⟩ := hrel
      go_wp2_with fail
      go_ret
      exact ⟨ret_int (by omega), OwnI.eq (h.kept hg (.inl rfl)) (List.eq_nil_of_length_eq_zero h.len), hg⟩
  · cases hv
    unfold maxLen at hcm
    have HN := Lib.hid hn; clear hn hgg
    go_enter Try.func32, Try.ntmps32
    go_wp2_with fail
    go_loopg [1, 5] n (fun kk r i wr => ∃ j : Nat, j ≤ n ∧ kk = n - j ∧ i = .int .i64 j ∧ r = .int .i64 (k + (j : Int)) ∧ Hid (OwnI wr base (some ⟨g, 0, none⟩) n c (markTK k xs j)) ∧ w.grownBy wr (some g))
    case atStart => exact ⟨0, Nat.zero_le _, rfl, rfl, by go_num, h, rfl, rfl, rfl, Nat.le_refl _, fun _ _ _ => rfl⟩
    case round =>
      obtain ⟨j, hj, hk, rfl, rfl, hown, hbel⟩ := hrel
      have HK := Lib.hid hk; clear hk
      have hsz := hbel.size
      by_cases hlt : j < n
      · have o0 := hown.out.cellI hlt
        have of0 := hown.out.frozenAt j
        go_wp2_with fail
        go_roundg (n - (j + 1))
        case measure => have := HK.out; omega
        case rel => exact ⟨j + 1, by omega, rfl, by go_num, by go_num, (hown.out.stored _).eq (markTK_set HN.out hlt), hbel.os, hbel.tape, hbel.output, by simpa [World.setCell] using hbel.size, fun i hi hne => (Below.heap_setCell _ _ _ i (fun e => hne (by rw [e]))).trans (hbel.block i hi hne)⟩
      · go_wp2_with fail
        go_ret
        have ej : j = n := by omega
        subst ej
        exact ⟨rfl, hown.out.eq (markTK_full HN.out), hbel⟩

theorem heldIntS_k (k : Int) (A : Option Addr) (n c : Nat) (w : World) (hm : n ≤ 2097152) (k0 : 0 ≤ k) (k1 : k ≤ 1000000000) (hr : Row w w.heap.size 1 A n (inc (marksK k n))) :
    Calls Try.prog 33 #[.slice A n c, .int .i64 k] w fun e w' => e = .returned (.int .i64 (k + n)) ∧ Below w.heap.size w w' := by
  go_enter Try.func33, Try.ntmps33
  go_wp2_with fail
  go_loopg [1, 5] n (fun kk r i wr => ∃ j : Nat, j ≤ n ∧ kk = n - j ∧ i = .int .i64 j ∧ r = .int .i64 (k + (j : Int)) ∧ Below w.heap.size w wr)
  case atStart => exact ⟨0, Nat.zero_le _, rfl, rfl, by go_num, Below.refl _ _⟩
  case round =>
    obtain ⟨j, hj, hk, rfl, rfl, hbel⟩ := hrel
    have HK := Lib.hid hk; clear hk
    have hsz := hbel.size
    by_cases hlt : j < n
    · obtain ⟨b, off, rfl, hb, hc⟩ := hr.at1 (by omega)
      have c0 : wr.cell? ⟨b, off + j, none⟩ = _ := (hbel.cell (p := ⟨b, off + j, none⟩) hb).trans (hc j hlt)
      simp only [inc, marksK_at hlt] at c0
      clear hc
      go_wp2_with fail
      go_roundg (n - (j + 1))
      case measure => have := HK.out; omega
      case rel => exact ⟨j + 1, by omega, rfl, by go_num, by go_num, by (repeat' (first | (with_reducible exact Below.refl _ _) | (with_reducible assumption) | (with_reducible refine Below.alloc ?_ ?_ _) | (with_reducible refine Below.drew ?_) | (with_reducible refine below_drewN ?_ _) | (with_reducible refine Below.setCell ?_ ?_ _) | (with_reducible refine below_then ?_ ?_ (by with_reducible assumption)) | (with_reducible exact Nat.le_refl _) | go_size | (simp only [*]; done)))⟩
    · have ej : j = n := by omega
      subst ej
      go_wp2_with fail
      go_ret
      exact ⟨rfl, hbel⟩
end Go.Proofs.Ytkmipgekmbngcaa
/- The generator of shapes returns some numbers, in memory of their own. Conditions: the reader has yielded fewer than 2^49 numbers. -/
namespace Go.Proofs.Ytkmipgekmbngcaa
open Go.RowKit

set_option maxHeartbeats 1000000 in
theorem anyShape_any (rb p : Nat) (w : World) (h : Rd w rb p) (hp : p ≤ 140737488355328) : Calls Try.prog 36 #[.pointer (some ⟨rb, 0, none⟩)] w (DrawnInts w rb p 10 4 0 10001) := by
  obtain ⟨i0, hi, hz0, hz1, hz2⟩ := info_parts int_info
  have hlt := h.lt
  go_enter Try.func36, Try.ntmps36
  go_wp2_with fail
  ((with_reducible refine (pick_any rb _ _ _ (h.alloc _) (by omega)).mono ?_); rintro e w1 ⟨v, rfl, hv1, hv2, hr1, ho1⟩)
  have hv3 := hv2 (by omega)
  clear hv2
  obtain ⟨m0, rfl⟩ := Int.eq_ofNat_of_zero_le hv1
  have hown1 := Lib.hid (own_nil w1 w.heap.size w.heap.size ((Blk.new w 3 #[]).grown ho1 (by simp; omega)) (Nat.le_refl _))
  have hO1 : w.grownBy w1 (some rb) := by (repeat' (first | (with_reducible exact only_refl _ _) | (with_reducible assumption) | (with_reducible refine only_alloc ?_ _) | (with_reducible refine only_drew ?_) | (with_reducible refine only_drewN ?_ _) | (with_reducible refine only_setCell ?_ ?_ _) | (with_reducible refine only_trans ?_ (by with_reducible assumption)) | (with_reducible exact Or.inl rfl) | (refine Or.inr ?_; first | (simp; done) | omega | (simp; omega)) | omega))
  have hs1 := hO1.size
  clear ho1
  go_wp2_with fail
  go_loopg [3, 4] (m0 + 1) (fun k o cnt wr => ∃ (m g c q p' : Nat) (xs : List Int), o = .slice (some ⟨g, 0, none⟩) q c ∧ cnt = .int .i64 (m : Int) ∧ k = m ∧ m + q = m0 + 1 ∧ Hid (∀ x ∈ xs, 0 ≤ x ∧ x ≤ 10001) ∧ Hid (OwnI wr w.heap.size (some ⟨g, 0, none⟩) q c xs) ∧ p' + m ≤ p + 6 ∧ Rd wr rb p' ∧ w.grownBy wr (some rb))
  case atStart => exact ⟨m0 + 1, w.heap.size, 0, 0, p + 1, [], rfl, by go_num, rfl, by omega, (by intro x hx; cases hx), hown1.out, by omega, hr1, hO1⟩
  case round =>
    obtain ⟨m, g, c, q, p', xs, rfl, rfl, hk, hmq, hxb, hown, hp', hrd, hO⟩ := hrel
    have HK := Lib.hid hk; clear hk
    have hgb := (hown.out.lt g rfl).1
    have hs0 := hO.size
    by_cases hm : 0 < m
    · go_wp2_with fail
      ((with_reducible refine (one_any rb _ wr.heap.size 5 5 (fun i => [15, 20, 25, 30, 12].getD i 0) _ (hrd.alloc _) (by omega) (by omega) (by omega) (by omega) (lit_cells [15, 20, 25, 30, 12] (Blk.new _ _ _) rfl)).mono ?_); rintro e w2 ⟨a, ha, rfl, hr2, ho2⟩)
      have ha' := lit_bound [15, 20, 25, 30, 12] 0 10001 (by decide) (by decide) ha
      clear ha
      have hO2 := only_trans (only_alloc hO _) ho2
      have HO := Lib.hid (((hown.out.alloc _).kept ho2 (.inr (by simp [Value.ownBlock]; omega))).alloc (.cells #[.int .i64 a] 3))
      have HB := Lib.hid (Blk.new w2 3 #[.int .i64 a])
      have hs2 := hO2.size
      have HS2 := Lib.hid (show w.heap.size ≤ (w2.alloc (.cells #[.int .i64 a] 3)).heap.size by simp; omega)
      go_wp2_with (at_builtin; (refine wpList_append_one _ rfl _ _ 24 rfl w.heap.size 3 i0 _ 1 8 Try.underlying24 hi hz0 hz1 hz2 rfl (by omega) (some ⟨g, 0, none⟩) q c (inl xs) rfl HO.out w2.heap.size (inl [a]) rfl rfl HB.out (inl_one _) (by omega) (by omega) HS2.out ?_); intro g' c' w3 hown3 hgr3)
      go_wp2_with fail
      go_roundg (m - 1)
      case measure => have := HK.out; omega
      case rel =>
        refine ⟨m - 1, g', c', q + 1, p' + 1, xs ++ [a], rfl, by go_num, rfl, by omega, mem_snoc hxb.out ha', ?_, by omega, (hr2.alloc _).own hgr3 (by intro x hx; cases hx; simp; omega), only_own (only_alloc hO2 _) hgr3 (by intro x hx; cases hx; simp; omega)⟩
        show World.ownsRow _ _ _ _ _ _ _
        rw [inl_snoc]; exact hown3
    · have hq : 0 < q := by omega
      go_wp2_with fail
      ((with_reducible refine (pick_any _ _ _ _ hrd (by omega)).mono ?_); rintro e w2 ⟨x, rfl, hx0, hx1, hr2, ho2⟩)
      have HO2 := Lib.hid (hown.out.kept ho2 (.inr (by simp [Value.ownBlock]; omega)))
      have hO2 := only_trans hO ho2
      have hs2 := hO2.size
      clear hx1
      by_cases x0 : x = 0
      · subst x0
        go_wp2_with fail
        ((with_reducible refine (one_any rb _ w2.heap.size 2 2 (fun i => [0, 10001].getD i 0) _ (hr2.alloc _) (by omega) (by omega) (by omega) (by omega) (lit_cells [0, 10001] (Blk.new _ _ _) rfl)).mono ?_); rintro e w3 ⟨v, hv, rfl, hr3, ho3⟩)
        have hv' := lit_bound [0, 10001] 0 10001 (by decide) (by decide) hv
        clear hv
        have ho3' := (HO2.out.alloc (.cells #[.int .i64 0, .int .i64 10001] 3)).kept ho3 (.inr (by simp [Value.ownBlock]; omega))
        have hO3 := only_trans (only_alloc hO2 _) ho3
        have hlg := (ho3'.lt g rfl).2
        have k0 := OwnI.cellI ho3' hq
        have l0 := ho3'.frozenAt 0
        have HO3 := Lib.hid ho3'
        clear ho3' HO2 hown
        have hq' : (0 : Int) < (q : Int) := by omega
        go_wp2_with fail
        go_ret
        have hfin : OwnI _ w.heap.size (some ⟨g, 0, none⟩) q c (xs.set 0 v) := OwnI.stored (j := 0) HO3.out v
        exact ⟨_, q, c, xs.set 0 v, p' + 1 + 1, rfl, hfin.len, by omega, mem_set hxb.out hv', hfin.row, (by intro x hx; cases hx; simp; omega), by omega, hr3.setCell (by simp; omega) _, by (repeat' (first | (with_reducible exact only_refl _ _) | (with_reducible assumption) | (with_reducible refine only_alloc ?_ _) | (with_reducible refine only_drew ?_) | (with_reducible refine only_drewN ?_ _) | (with_reducible refine only_setCell ?_ ?_ _) | (with_reducible refine only_trans ?_ (by with_reducible assumption)) | (with_reducible exact Or.inl rfl) | (refine Or.inr ?_; first | (simp; done) | omega | (simp; omega)) | omega))⟩
      by_cases x1 : x = 1
      · subst x1
        go_wp2_with fail
        go_ret
        exact ⟨_, 0, 0, [], p' + 1, rfl, rfl, by omega, (by intro x hx; cases hx), Row.nil, (by intro x hx; cases hx; simp; omega), by omega, hr2.alloc _, by (repeat' (first | (with_reducible exact only_refl _ _) | (with_reducible assumption) | (with_reducible refine only_alloc ?_ _) | (with_reducible refine only_drew ?_) | (with_reducible refine only_drewN ?_ _) | (with_reducible refine only_setCell ?_ ?_ _) | (with_reducible refine only_trans ?_ (by with_reducible assumption)) | (with_reducible exact Or.inl rfl) | (refine Or.inr ?_; first | (simp; done) | omega | (simp; omega)) | omega))⟩
      · have y0 : (x == 0) = false := by simp; omega
        have y1 : (x == 1) = false := by simp; omega
        go_wp2_with fail
        go_ret
        have hfin : OwnI _ w.heap.size (some ⟨g, 0, none⟩) q c xs := HO2.out
        exact ⟨_, q, c, xs, p' + 1, rfl, hfin.len, by omega, hxb.out, hfin.row, (by intro x hx; cases hx; simp; omega), by omega, hr2, hO2⟩
end Go.Proofs.Ytkmipgekmbngcaa
