/- The law on wider columns answers true: FnFitsColumns. Conditions: the code is a slice of bytes. -/
import Derived.Test.YtbkhimdebpllcaaColsLawF
namespace Go.Proofs.Ytbkhimdebpllcaa
open Go.RowKit

set_option maxRecDepth 100000 in
set_option maxHeartbeats 4000000 in
theorem law_FitsColumns (A : Option Addr) (n cap : Nat) (cs : List Int) (A2 : Option Addr) (n2 cap2 : Nat) (cs2 : List Int) (w : World) (hc : Code w A n cap cs) (hc2 : Code w A2 n2 cap2 cs2) :
    Calls Try.prog 10 #[.slice A n cap, .slice A2 n2 cap2] w fun e w' => e = .returned (.bool true) ∧ Below w.heap.size w w' := by
  have hn := hc.1
  have hn2 := hc2.1
  unfold maxLen at hn hn2
  clear hc2
  by_cases hbig : 1048576 < n
  · go_enter Try.func10, Try.ntmps10
    go_wp2
    go_returns
    exact ⟨rfl, Below.refl _ _⟩
  by_cases hbig2 : 1048576 < n2
  · go_enter Try.func10, Try.ntmps10
    go_wp2
    go_returns
    exact ⟨rfl, Below.refl _ _⟩
  obtain ⟨t0, ti, tz0, tz1, tz2⟩ := info_parts int_info
  go_enter Try.func10, Try.ntmps10
  go_wp2_with fail
  ((with_reducible refine (DrawFitsColumns_any _ _ _ cs _ hc).mono ?_); rintro e w1 ⟨g, k, c, rs, B, q, d, ws, rfl, hk, ⟨hkc, hcm⟩, hT1, hq8, ho1, hb1⟩)
  have hkx : k ≤ maxLen := by omega
  have hqx : q ≤ maxLen := by unfold maxLen; omega
  have hcw := own_cap ho1
  have hcw2 : q ≤ d ∧ d ≤ maxLen := ⟨hcw.1, hcw.2.1⟩
  clear hcw
  have HQ := Lib.hid (OwnI.len ho1)
  obtain ⟨f, hf⟩ : ∃ f, fitsV rs ws = f := ⟨_, rfl⟩
  have HF := Lib.hid hf
  clear hf hc
  go_wp2_with fail
  ((with_reducible refine (fits_i _ _ _ _ _ _ rs ws _ HQ.out hqx hcw2 hkx ?_ ?_).mono ?_); (exact ho1.row); (exact hT1.tab); rintro e w2 ⟨rfl, hb2⟩)
  rw [HF.out]
  have hT2 := hT1.then_ hb2
  have ho2 := ho1.then_ hb2
  have hB2 := below_then (Nat.le_refl _) hb1 hb2
  go_wp2_with fail
  ((with_reducible refine (fitsColumns_S _ _ _ _ _ _ rs ws _ HQ.out hqx hkx ?_ ?_).mono ?_); (exact ho2.row); (exact hT2.tab); rintro e w3 ⟨rfl, hb3⟩)
  rw [HF.out]
  have hT3 := hT2.then_ hb3
  have ho3 := ho2.then_ hb3
  have hB3 := below_then (Nat.le_refl _) hB2 hb3
  clear hT1 hT2 ho1 ho2
  rcases f with _ | _
  · go_wp2_with fail
    ((with_reducible refine (fitsColumns_S _ _ _ _ _ _ rs ws _ HQ.out hqx hkx ?_ ?_).mono ?_); (exact ho3.row); (exact hT3.tab); rintro e w4 ⟨rfl, hb4⟩)
    rw [HF.out]
    go_wp2_with fail
    go_returns
    exact ⟨rfl, below_then (Nat.le_refl _) hB3 hb4⟩
  have hwok : wsOk ws = true := by
    have h := HF.out
    simp only [fitsV, Bool.and_eq_true] at h
    exact h.1.1
  obtain ⟨hwb, hw1, _⟩ := wsOk_iff hwok
  have hq1 : 1 ≤ q := by rw [← HQ.out]; exact hw1
  obtain ⟨m, hm⟩ : ∃ m, n2 % q = m := ⟨_, rfl⟩
  have hmq : m < q := by rw [← hm]; exact Nat.mod_lt _ (by omega)
  have hmI : (n2 : Int) % (q : Int) = (m : Int) := by rw [← hm]; simp
  have hmqI : (m : Int) < (q : Int) := by omega
  obtain ⟨r, hr⟩ : ∃ r, (n2 : Int) % 9 = r := ⟨_, rfl⟩
  have hr0 : 0 ≤ r ∧ r < 9 := by rw [← hr]; omega
  obtain ⟨hr0, hr9⟩ := hr0
  obtain ⟨y, hy⟩ : ∃ y, ws.getD m default = y := ⟨_, rfl⟩
  obtain ⟨hy0, hy1⟩ := hwb y (mem_of_getD HQ.out hmq hy)
  have HY := Lib.hid hy
  have HN := Lib.hid (own_nil (w3.alloc (.cells #[] 3)) w3.heap.size w3.heap.size (Blk.new w3 3 #[]) (Nat.le_refl _))
  have HO3 := Lib.hid (OwnI.alloc ho3 (.cells #[] 3))
  have HS := Lib.hid (show w3.heap.size ≤ (w3.alloc (.cells #[] 3)).heap.size by simp)
  have hBa := (Below.refl w3.heap.size w3).alloc (Nat.le_refl _) (.cells #[] 3)
  have HT3 := Lib.hid hT3
  clear hwb hwok hw1 hm hy ho3 hT3
  go_wp2_with (at_builtin; (refine wpList_append_ints _ rfl _ _ 22 rfl w3.heap.size t0 _ Try.underlying22 ti tz0 tz1 tz2 rfl w3.heap.size rfl HN.out (some ⟨B, 0, none⟩) q d _ ws rfl HO3.out (by omega) HS.out ?_); intro gl cl w5 hown5 hgr5; (have HO5 := Lib.hid hown5); (have hB5 := hBa.grown hgr5 hBa.size (fun k hk => by cases hk; exact Nat.le_refl _)); (have k0 := OwnI.cellI HO5.out hmq); rw [HY.out] at k0; (have f0 := World.ownsRow.frozenAt HO5.out m); clear hown5 hgr5)
  · have hgl := (HO5.out.lt gl rfl).1
    have hcl := own_cap HO5.out
    have hB6 := hB5.setCell (p := ⟨gl, m, none⟩) hgl (.int .i64 (10000))
    have hz6 := hB6.size
    have hB36 := below_then (Nat.le_refl _) hB3 hB6
    have HFW := Lib.hid (fits_wider (k := m) (v := 10000) HF.out HQ.out (by rw [HY.out]; omega) (by omega) (by omega))
    ((with_reducible refine (fits_i _ _ _ _ _ _ rs (ws.set m (10000)) _ (by rw [List.length_set]; exact HQ.out) hqx ⟨hcl.1, hcl.2.1⟩ hkx ?_ ?_).mono ?_); (exact (OwnI.stored (j := m) HO5.out (10000)).row); (exact (HT3.out.then_ hB6).tab); rintro e w6 ⟨rfl, hb6⟩)
    rw [HFW.out]
    go_wp2_with fail
    go_returns
    exact ⟨rfl, below_then (Nat.le_refl _) hB36 hb6⟩
  · have hgl := (HO5.out.lt gl rfl).1
    have hcl := own_cap HO5.out
    have hB6 := hB5.setCell (p := ⟨gl, m, none⟩) hgl (.int .i64 (y + 1 + r))
    have hz6 := hB6.size
    have hB36 := below_then (Nat.le_refl _) hB3 hB6
    have HFW := Lib.hid (fits_wider (k := m) (v := y + 1 + r) HF.out HQ.out (by rw [HY.out]; omega) (by omega) (by omega))
    ((with_reducible refine (fits_i _ _ _ _ _ _ rs (ws.set m (y + 1 + r)) _ (by rw [List.length_set]; exact HQ.out) hqx ⟨hcl.1, hcl.2.1⟩ hkx ?_ ?_).mono ?_); (exact (OwnI.stored (j := m) HO5.out (y + 1 + r)).row); (exact (HT3.out.then_ hB6).tab); rintro e w6 ⟨rfl, hb6⟩)
    rw [HFW.out]
    go_wp2_with fail
    go_returns
    exact ⟨rfl, below_then (Nat.le_refl _) hB36 hb6⟩
end Go.Proofs.Ytbkhimdebpllcaa
