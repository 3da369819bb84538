/- BestPages of the program returns what the plain function says. Conditions: the slice reads as the list. -/
import Derived.Test.YticdgpgbpgjnbaaBestPath
import Derived.Test.YticdgpgbpgjnbaaBestPlain
namespace Go.Proofs.Yticdgpgbpgjnbaa
open Go.RowKit

def iota (N : Nat) : List Int := (List.range N).map fun k : Nat => (k : Int)
theorem iota_len (N : Nat) : (iota N).length = N := by simp [iota]
theorem iota_at {N k : Nat} (h : k < N) : (iota N).getD k default = (k : Int) := by
  rw [List.getD_eq_getElem?_getD, iota, List.getElem?_map, List.getElem?_range h]; rfl
theorem mem_path (c : Nat → Nat → Option Int) (i : Nat) : ∀ v k, Dp.tbl c i = some (v, k) → ∀ j ∈ Dp.path c i, j ≤ i := by
  induction i using Nat.strongRecOn with
  | _ i ih =>
    intro v k ht j hj
    rcases Nat.eq_zero_or_pos i with rfl | hp
    · rw [Dp.path_zero] at hj; cases hj
    · obtain ⟨hk, u, k', s, h1, _, _⟩ := Dp.tbl_some hp ht
      rw [Dp.path_pos hp ht] at hj
      rcases List.mem_append.1 hj with h | h
      · have := ih k hk u k' h1 j h; omega
      · simp at h; omega
theorem path_iota {c : Nat → Nat → Option Int} {n : Nat} : pathV c (iota (n + 1)) n = bestOut c n := by
  rcases ht : Dp.tbl c n with _ | ⟨v, k⟩
  · rw [pathV_none ht, bestOut_none ht]
  · rw [pathV_some ht, bestOut_some ht]
    have e : (Dp.path c n).map (fun i => (iota (n + 1)).getD i default) = ints (Dp.path c n) := List.map_congr_left fun j hj => iota_at (by have := mem_path c n v k ht j hj; omega)
    rw [e]

theorem bestPages1_any (B1 B2 : Nat) (A : Option Addr) (n cap k i : Nat) (h : Int) (xs : List Ln) (w : World) (hok : linesOk xs = true) (hn : xs.length = n) (hcap : n ≤ cap ∧ cap ≤ maxLen) (hk : k < i) (hi : i ≤ n) (h1 : 1 ≤ h) (h2 : h ≤ 10000)
    (hr : Row w w.heap.size 3 A n (lnc xs)) (hB1 : Blk w B1 25 #[.slice A n cap]) (hB2 : Blk w B2 3 #[.int .i64 h]) :
    Calls Try.prog 54 #[.int .i64 (k : Int), .int .i64 (i : Int), .pointer (some ⟨B1, 0, none⟩), .pointer (some ⟨B2, 0, none⟩)] w fun e w' => e = .returned (.tuple #[.int .i64 ((pageC xs h k i).getD 0), .bool (pageC xs h k i).isSome]) ∧ Below w.heap.size w w' := by
  have HR := Lib.hid hr; clear hr
  have plt := hB1.lt
  have pc0 := hB1.cell 0; have pf0 := hB1.frozen 0
  simp only [List.getElem?_toArray, List.getElem?_cons_zero, List.getElem?_cons_succ] at pc0
  have qlt := hB2.lt
  have qc0 := hB2.cell 0; have qf0 := hB2.frozen 0
  simp only [List.getElem?_toArray, List.getElem?_cons_zero, List.getElem?_cons_succ] at qc0
  go_enter Try.func54, Try.ntmps54
  go_wp2_with fail
  ((with_reducible refine (pageCost_i _ _ _ k i h xs _ hok hn hcap hk hi h1 h2 ?_).mono ?_); (exact HR.out); rintro e w1 ⟨rfl, hb⟩)
  go_wp2
  go_ret2
  exact ⟨rfl, hb⟩

set_option maxHeartbeats 2000000 in
theorem best_i (A : Option Addr) (n cap : Nat) (h : Int) (xs : List Ln) (w : World) (hn : xs.length = n) (hm : n ≤ maxLen) (hcap : n ≤ cap ∧ cap ≤ maxLen) (hr : Row w w.heap.size 3 A n (lnc xs)) :
    Calls Try.prog 33 #[.slice A n cap, .int .i64 h] w (PathOut w (bestV xs h)) := by
  have eg : ∀ args w, (callFunc 54 args).run Try.prog w = .ok (.enter 54 args) w := enters_of Try.func54 (by kernel_rfl) rfl
  have hq1 := Lib.hid (Blk.new w 25 #[.slice A n cap])
  have hq2 := Lib.hid (Blk.new_at (w.alloc (.cells #[.slice A n cap] 25)) 3 #[.int .i64 h] (w.heap.size + 1) (by simp))
  have hb0 : Below w.heap.size w ((w.alloc (.cells #[.slice A n cap] 25)).alloc (.cells #[.int .i64 h] 3)) := ((Below.refl _ _).alloc (Nat.le_refl _) _).alloc (by simp) _
  have hr0 := (hr.alloc' (.cells #[.slice A n cap] 25)).alloc' (.cells #[.int .i64 h] 3)
  rcases hv : pagingOk xs h with _ | _
  · have E := Lib.hid (best_bad hv)
    clear hr
    go_enter Try.func33, Try.ntmps33
    go_wp2_with fail
    ((with_reducible refine (validPaging_i _ _ _ _ xs _ hn hm ?_).mono ?_); (exact hr0); rintro e w1 ⟨rfl, hb⟩)
    rw [hv]
    go_wp2
    (first | go_returns | (refine bodyPost_ret (by simp [results, Try.results33, go_sem, *]; try rfl) rfl ?_))
    exact ⟨none, 0, by rw [E.out]; rfl, by rw [E.out]; exact ⟨rfl, .inl ⟨rfl, rfl⟩⟩, below_then (by simp) hb0 hb⟩
  obtain ⟨hok, g1, g2⟩ := paging_iff hv
  have hl := linesOk_len hok
  rw [hn] at hl
  obtain ⟨i0, hi, hz0, hz1, hz2⟩ := info_parts int_info
  have hmk := make_n (P := Try.prog) 37 3 i0 _ Try.underlying37 hi hz0 (n + 1) (by rw [hz2]; omega) (by omega)
  rw [hz1, Int.natCast_add, Int.natCast_one] at hmk
  have HOK := Lib.hid hok
  have HN := Lib.hid hn
  have HR := Lib.hid hr
  have HV := Lib.hid hv
  have HR0 := Lib.hid hr0
  clear hok hn hr hv hr0
  go_enter Try.func33, Try.ntmps33
  go_wp2_with fail
  ((with_reducible refine (validPaging_i _ _ _ _ xs _ HN.out hm ?_).mono ?_); (exact HR0.out); rintro e w1 ⟨rfl, hb⟩)
  rw [HV.out]
  have hz := hb.size
  simp at hz
  have hB1 := below_then (by simp) hb0 hb
  have b1 := ((hq1.out.alloc (.cells #[.int .i64 h] 3)).then_ hb)
  have b2 := hq2.out.then_ hb
  have plt := b1.lt
  have pc0 := b1.cell 0; have pf0 := b1.frozen 0
  simp only [List.getElem?_toArray, List.getElem?_cons_zero, List.getElem?_cons_succ] at pc0
  have HB1 := Lib.hid b1
  have HB2 := Lib.hid b2
  have HO0 := Lib.hid (made_own w1 (.int .i64 0) (n + 1) (by unfold maxLen; omega) 3 rfl)
  clear b1 b2
  go_wp2_with fail
  go_loopg [19] (n + 1) (fun k iv wr => ∃ j : Nat, j ≤ n + 1 ∧ k = n + 1 - j ∧ iv = .int .i64 j ∧ Hid (OwnI wr w1.heap.size (some ⟨w1.heap.size, 0, none⟩) (n + 1) (n + 1) (fillI (iota (n + 1)) j (n + 1))) ∧ Below w1.heap.size w1 wr)
  case atStart => exact ⟨0, Nat.zero_le _, rfl, by go_num, by rw [fillI_zero]; have := HO0.out; simpa [OwnI, inl, Hid, Value.cells] using this, by (repeat' (first | (with_reducible exact Below.refl _ _) | (with_reducible assumption) | (with_reducible refine Below.alloc ?_ ?_ _) | (with_reducible refine Below.drew ?_) | (with_reducible refine below_drewN ?_ _) | (with_reducible refine Below.setCell ?_ ?_ _) | (with_reducible refine below_then ?_ ?_ (by with_reducible assumption)) | (with_reducible exact Nat.le_refl _) | go_size | (simp only [*]; done)))⟩
  case round =>
    obtain ⟨j, hj, hk, rfl, hown, hbel⟩ := hrel
    have HK := Lib.hid hk; clear hk
    have hsz := hbel.size
    have olt := (hown.out.lt w1.heap.size rfl).2
    by_cases hlt : j < n + 1
    · have o0 := hown.out.cellI hlt
      have of0 := hown.out.frozenAt j
      have hlt' : (j : Int) < (n : Int) + 1 := by omega
      go_wp2_with fail
      go_roundg (n + 1 - (j + 1))
      case measure => have := HK.out; omega
      case rel => exact ⟨j + 1, by omega, rfl, by go_num, (hown.out.stored (j : Int)).eq (fillI_set (iota_len _) hlt (iota_at hlt)), by (repeat' (first | (with_reducible exact Below.refl _ _) | (with_reducible assumption) | (with_reducible refine Below.alloc ?_ ?_ _) | (with_reducible refine Below.drew ?_) | (with_reducible refine below_drewN ?_ _) | (with_reducible refine Below.setCell ?_ ?_ _) | (with_reducible refine below_then ?_ ?_ (by with_reducible assumption)) | (with_reducible exact Nat.le_refl _) | go_size | (simp only [*]; done)))⟩
    · have ej : j = n + 1 := by omega
      have hown' : OwnI wr w1.heap.size (some ⟨w1.heap.size, 0, none⟩) (n + 1) (n + 1) (iota (n + 1)) := hown.out.eq (by rw [ej]; exact fillI_full _ _ (iota_len _))
      have HO := Lib.hid hown'
      have hj' : ¬ (j : Int) < (n : Int) + 1 := by omega
      have b1 := HB1.out.then_ hbel
      have b2 := HB2.out.then_ hbel
      have hB := below_then (Nat.le_refl _) hB1 hbel
      have hrr := (HR.out.below hB).more hB.size
      have HBB1 := Lib.hid b1
      have HBB2 := Lib.hid b2
      have HRR := Lib.hid hrr
      clear hown' b1 b2 hrr
      go_wp2_with fail
      ((with_reducible refine (bestPath_any 54 #[.pointer (some ⟨w.heap.size, 0, none⟩), .pointer (some ⟨w.heap.size + 1, 0, none⟩)] (some ⟨w1.heap.size, 0, none⟩) (n + 1) n (n + 1) (iota (n + 1)) (pageC xs h) 4000040000 _ eg (iota_len _) rfl (by omega) HO.out.row (by omega) (by omega) ?_ ?_ ?_).mono ?_); rotate_left 3; rintro e w3 ⟨A3, d3, rfl, hown3, hb3⟩)
      · go_wp2_with fail
        (first | go_returns | (refine bodyPost_ret (by simp [results, Try.results33, go_sem, *]; try rfl) rfl ?_))
        have e : pathV (pageC xs h) (iota (n + 1)) n = bestV xs h := by rw [path_iota, best_ok HN.out HV.out]
        rw [e] at hown3
        refine ⟨A3, d3, by rw [e]; rfl, hown3.mono (by have := hB.size; omega), below_then (Nat.le_refl _) hB hb3⟩
      · intro i v k hi ht
        have := tblP_rng HN.out HV.out i hi v k ht
        omega
      · intro k i s hk hi hs
        have := pageC_rng HN.out HV.out k i s hk hi hs
        omega
      · intro k i W hk hi hW
        rw [iota_at (by omega), iota_at (by omega)]
        exact bestPages1_any _ _ A n cap k i h xs W HOK.out HN.out hcap hk hi g1 g2 ((HRR.out.below hW).more hW.size) (HBB1.out.then_ hW) (HBB2.out.then_ hW)
end Go.Proofs.Yticdgpgbpgjnbaa
