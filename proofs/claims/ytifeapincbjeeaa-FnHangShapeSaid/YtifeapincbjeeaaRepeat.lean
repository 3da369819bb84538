/- slices.Repeat at one number: a new row that holds the number count times. Conditions: the source is a row of one number; the count is in 0..1000. -/
import Derived.Test.YtifeapincbjeeaaInts
import Derived.Lib.Mul64
import Derived.Laws.Bits64b
import Derived.Laws.CopyOwn
import Derived.Deep.RegionLaw
namespace Go.Proofs.Ytifeapincbjeeaa
open Go.RowKit

theorem maskS (a : Nat) (ha : a < 4294967296) : bits .and .u64 (a : Int) 4294967295 = (a : Int) := by
  have h := bits_and_u64_nat a 4294967295 (by omega) (by omega)
  have e : a &&& 4294967295 = a % 4294967296 := Nat.and_two_pow_sub_one_eq_mod a 32
  rw [e, Nat.mod_eq_of_lt ha] at h
  exact h

theorem mul64_one (y : Nat) (hy : y ≤ 1000) (w : World) :
    Calls Try.prog 35 #[.int .u64 1, .int .u64 (y : Int)] w fun e w' => e = .returned (.tuple #[.int .u64 0, .int .u64 (y : Int)]) ∧ w = w' := by
  have m1 : bits .and .u64 1 4294967295 = 1 := maskS 1 (by omega)
  have m2 : bits .and .u64 (y : Int) 4294967295 = (y : Int) := maskS y (by omega)
  have d1 : (y : Int) / 4294967296 = 0 := by omega
  have m3 : bits .and .u64 0 4294967295 = 0 := maskS 0 (by omega)
  go_enter Try.func35, Try.ntmps35
  go_wp2
  go_ret2
  exact ⟨rfl, rfl⟩
theorem mul_one' (y : Nat) (hy : y ≤ 1000) (w : World) :
    Calls Try.prog 33 #[.int .u64 1, .int .u64 (y : Int)] w fun e w' => e = .returned (.tuple #[.int .u64 0, .int .u64 (y : Int)]) ∧ w = w' := by
  go_enter Try.func33, Try.ntmps33
  go_wp2_with fail
  ((with_reducible refine (mul64_one y hy _).mono ?_); rintro e w' ⟨rfl, rfl⟩)
  go_wp2
  go_ret2
  exact ⟨rfl, rfl⟩

/-- A row whose first m cells are written. -/
def repL (v : Int) (m k : Nat) : List Int := List.replicate m v ++ List.replicate (k - m) 0
theorem repL_splice (v : Int) (m k c : Nat) (h : m + c ≤ k) : splice (inl (repL v m k)) m (inl (List.replicate c v)) = inl (repL v (m + c) k) := by
  have e1 : (inl (repL v m k)) = List.replicate m (.int .i64 v) ++ List.replicate (k - m) (.int .i64 0) := by simp [repL, inl]
  have e2 : inl (repL v (m + c) k) = List.replicate m (.int .i64 v) ++ (List.replicate c (.int .i64 v) ++ List.replicate (k - (m + c)) (.int .i64 0)) := by
    simp [repL, inl, ← List.replicate_append_replicate]
  rw [e1, e2]
  simp only [splice, inl, List.map_replicate, List.length_replicate]
  rw [List.take_left' (by simp), List.drop_append]
  simp
  omega

theorem repL_zero (v : Int) (k : Nat) : inl (repL v 0 k) = List.replicate k (.int .i64 0) := by simp [repL, inl]
theorem madeI (k : Nat) : madeCells #[(.int .i64 0 : Value)] (k * 1) = (inl (repL 0 0 k)).toArray := by
  rw [repL_zero]
  apply Array.ext
  · simp [madeCells]
  · intro i h1 h2
    simp [madeCells, Nat.mod_one]

theorem hszI : (Try.prog.info? 3).map (·.size) = some 1 := by kernel_rfl
theorem rep_src (W : World) (g c : Nat) (v : Int) (hW : ∀ i, i < c → W.cell? ⟨g, i, none⟩ = some (.int .i64 v)) : ∀ j u, (inl (List.replicate c v))[j]? = some u → W.cell? ((⟨g, 0, none⟩ : Addr).add j) = some u := by
  intro j u hu
  have e : (⟨g, 0, none⟩ : Addr).add j = ⟨g, j, none⟩ := by unfold Addr.add; split <;> simp_all
  simp [inl, List.getElem?_replicate] at hu
  rw [e, ← hu.2]
  exact hW j hu.1

set_option maxHeartbeats 1000000 in
theorem repeat_any (b : Nat) (v : Int) (k : Nat) (hk : k ≤ 1000) (w : World) (hx : w.cell? ⟨b, 0, none⟩ = some (.int .i64 v)) :
    Calls Try.prog 30 #[.slice (some ⟨b, 0, none⟩) 1 1, .int .i64 (k : Int)] w fun e w' => e = .returned (.slice (some ⟨w.heap.size, 0, none⟩) k k) ∧ OwnI w' w.heap.size (some ⟨w.heap.size, 0, none⟩) k k (List.replicate k v) ∧ Below w.heap.size w w' := by
  obtain ⟨i0, hi, hz0, hz1, hz2⟩ := info_parts int_info
  have hmk := make_n (P := Try.prog) 22 3 i0 _ Try.underlying22 hi hz0 k (by rw [hz2]; omega) (by omega)
  rw [hz1] at hmk
  have hb := World.block_lt_of_cell? w _ hx
  go_enter Try.func30, Try.ntmps30
  go_wp2_with fail
  ((with_reducible refine (mul_one' k hk _).mono ?_); rintro e w' ⟨rfl, rfl⟩)
  have hmade : (w.alloc (.cells (madeCells #[(.int .i64 0 : Value)] (k * 1)) 3)).heap[w.heap.size]? = some (.cells (inl (repL v 0 k)).toArray 3 (0, 0)) := by
    rw [heap_alloc_new, madeI]; rfl
  rw [Nat.mul_one] at hmade
  have HM := Lib.hid hmade; clear hmade
  have HS := Lib.hid (rep_src (w.alloc (.cells (madeCells #[(.int .i64 0 : Value)] k) 3)) b (min 1 k) v (fun i hi => by
    have h3 : i = 0 := by omega
    rw [h3]
    exact (World.cell?_alloc_lt w _ ⟨b, 0, none⟩ hb).trans hx))
  go_wp2_with (refine wpList_copy_splice (o := ⟨some 33, _, _, _, _, _⟩) rfl _ _ _ _ rfl 3 Try.underlying22 (by kernel_rfl) _ _ _ _ _ _ rfl rfl w.heap.size 0 (inl (repL v 0 k)) 3 HM.out (inl (List.replicate (min 1 k) v)) (by simp [inl]) (fun h => ⟨rfl, _, rfl, HS.out⟩) (by simp [inl, repL] <;> omega) (inl_one _) w.heap.size w (by (repeat' (first | (with_reducible exact Below.refl _ _) | (with_reducible assumption) | (with_reducible refine Below.alloc ?_ ?_ _) | (with_reducible refine Below.drew ?_) | (with_reducible refine below_drewN ?_ _) | (with_reducible refine Below.setCell ?_ ?_ _) | (with_reducible refine below_then ?_ ?_ (by with_reducible assumption)) | (with_reducible exact Nat.le_refl _) | go_size | (simp only [*]; done)))) (Nat.le_refl _) ?_; intro w1 hw1 hb1)
  have HW1 : Hid (w1.heap[w.heap.size]? = some (.cells (inl (repL v (min 1 k) k)).toArray 3 (0, 0))) := by
    have := hw1.out
    rw [repL_splice v 0 k (min 1 k) (by omega), Nat.zero_add] at this
    exact Lib.hid this
  clear hw1 HM
  go_loopg [8] (k - min 1 k) (fun kk s wr => ∃ m : Nat, m ≤ k ∧ kk = k - m ∧ (0 < k → 0 < m) ∧ s = .int .i64 (m : Int) ∧ Hid (wr.heap[w.heap.size]? = some (.cells (inl (repL v m k)).toArray 3 (0, 0))) ∧ Below w.heap.size w wr)
  case atStart => exact ⟨min 1 k, by omega, rfl, by omega, by simp [inl], HW1, hb1⟩
  case round =>
    obtain ⟨m, hmk, hk', hm0, rfl, hblk, hbel⟩ := hrel
    have HK := Lib.hid hk'; clear hk'
    by_cases hlt : m < k
    · have hm1 := hm0 (by omega)
      have hlt' : (m : Int) < (k : Int) := by omega
      have hle : (m : Int) ≤ (k : Int) := by omega
      have hnn : (0 : Int) ≤ (m : Int) := by omega
      have hne : ¬ k = m := by omega
      clear hm0
      go_wp2_with fail
      have hsrc := rep_src wr.drew w.heap.size (min m (k - m)) v (fun i hi => by
        rw [show wr.drew.cell? ⟨w.heap.size, i, none⟩ = wr.cell? ⟨w.heap.size, i, none⟩ from rfl, cell_of_row wr w.heap.size i _ 3 (0, 0) hblk.out]
        rw [List.getElem?_toArray]
        simp [inl, repL, List.getElem?_append_left, show i < m by omega])
      have HS2 := Lib.hid hsrc
      obtain ⟨cs, hcs⟩ : ∃ cs, inl (List.replicate (min m (k - m)) v) = cs := ⟨_, rfl⟩
      have HS2' := HS2.out
      rw [hcs] at HS2'
      have HS3 := Lib.hid HS2'
      have hcl : cs.length = min m (k - m) := by rw [← hcs, inl_len, List.length_replicate]
      have hcle : cs.length ≤ k - m := by omega
      have HL1 : Hid (cs.length = Nat.min m (k - m)) := hcl
      have HL2 : Hid (m + cs.length ≤ (inl (repL v m k)).length) := by
        show _ ≤ _
        rw [inl_len]
        simp [repL]
        omega
      have HL3 := Lib.hid (show ∀ u ∈ cs, u.oneCell' = true from hcs ▸ inl_one _)
      have HCS := Lib.hid hcs
      have HCL := Lib.hid hcl
      have hbd : Below w.heap.size w wr.drew := hbel.drew
      have hwr : IntKind.i64.wrap ((m : Int) + (cs.length : Int)) = (m : Int) + (cs.length : Int) := IntWalk.i64_in _ (by omega)
      clear hsrc hcs HS2' HS2 hcl
      go_region_law (refine step_copy_splice (o := ⟨some 45, _, _, _, _, _⟩) rfl (.tmp 41) (.tmp 44) 22 22 rfl 3 Try.underlying22 hszI (some ⟨w.heap.size, m, none⟩) (some ⟨w.heap.size, 0, none⟩) (k - m) (k - m) m k (by simp [Act.eval, Act.put]) (by simp [Act.eval, Act.put]) w.heap.size m (inl (repL v m k)) 3 hblk.out cs HL1.out (fun h => ⟨rfl, _, rfl, HS3.out⟩) HL2.out HL3.out w.heap.size w hbd (Nat.le_refl _) ?_; intro w2 hw2 hb2)
      go_wp2_with fail
      have HW2 : Hid (w2.heap[w.heap.size]? = some (.cells (inl (repL v (m + cs.length) k)).toArray 3 (0, 0))) := by
        have := hw2.out
        rw [← HCS.out, repL_splice v m k _ (by omega), ← HCL.out] at this
        exact Lib.hid this
      go_roundg (k - (m + cs.length))
      case measure => have := HK.out; have := HCL.out; omega
      case rel => exact ⟨m + cs.length, by omega, rfl, by omega, by go_num, HW2, hb2⟩
    · have ej : m = k := by omega
      subst ej
      clear hm0
      go_wp2_with fail
      go_ret
      refine ⟨rfl, ?_, hbel⟩
      have hfin := hblk.out
      have e0 : repL v m m = List.replicate m v := by simp [repL]
      rw [e0] at hfin
      exact ⟨by simp [inl], .inr ⟨w.heap.size, m, _, rfl, Nat.le_refl _, hfin, Nat.le_refl _, by unfold maxLen; omega, by simp [inl], by simp [inl]⟩⟩
end Go.Proofs.Ytifeapincbjeeaa
