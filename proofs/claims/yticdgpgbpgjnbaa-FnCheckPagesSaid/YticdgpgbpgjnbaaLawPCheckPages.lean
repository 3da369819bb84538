/- The law on checked pages answers true: FnCheckPages. Conditions: the code is a slice of bytes. -/
import Derived.Test.YticdgpgbpgjnbaaPagesWrap
namespace Go.Proofs.Yticdgpgbpgjnbaa
open Go.RowKit

set_option maxHeartbeats 4000000 in
theorem law_CheckPages (A : Option Addr) (n cap : Nat) (cs : List Int) (w : World) (hc : Code w A n cap cs) :
    Calls Try.prog 10 #[.slice A n cap] w fun e w' => e = .returned (.bool true) ∧ Below w.heap.size w w' := by
  have hn := hc.1
  unfold maxLen at hn
  by_cases hbig : 1048576 < n
  · go_enter Try.func10, Try.ntmps10
    go_wp2
    go_returns
    exact ⟨rfl, Below.refl _ _⟩
  go_enter Try.func10, Try.ntmps10
  go_wp2_with fail
  ((with_reducible refine (DrawCheckPages_any _ _ _ cs _ hc).mono ?_); rintro e w1 ⟨g, m, c, xs, h, B, q, d, ys, rfl, hx, hm, hcp, hh, hr1, hy, hq, hs1, hb1⟩)
  have HX := Lib.hid hx; clear hx
  have HY := Lib.hid hy; clear hy
  have HCP := Lib.hid hcp; clear hcp
  have hmx : m ≤ maxLen := by unfold maxLen; omega
  have hqx : q ≤ maxLen := by unfold maxLen; omega
  have hB1 := hb1
  obtain ⟨⟨v, ok⟩, hv⟩ : ∃ r, checkV xs h ys = r := ⟨_, rfl⟩
  have HV := Lib.hid hv; clear hv
  go_wp2_with fail
  ((with_reducible refine (check_iw HX.out hmx HCP.out HY.out hqx HV.out ?_ ?_).mono ?_); (exact hr1); (exact hs1); rintro e w2 ⟨rfl, hb2⟩)
  have hr2 := hr1.then_ hb2
  have hs2 := hs1.then_ hb2
  have hB2 := below_then (Nat.le_refl _) hB1 hb2
  clear hr1 hs1
  go_wp2_with fail
  ((with_reducible refine (check_sw HX.out hmx HY.out hqx HV.out ?_ ?_).mono ?_); (exact hr2); (exact hs2); rintro e w3 ⟨rfl, hb3⟩)
  have hr3 := hr2.then_ hb3
  have hs3 := hs2.then_ hb3
  have hB3 := below_then (Nat.le_refl _) hB2 hb3
  have HR3 := Lib.hid hr3
  have HS3 := Lib.hid hs3
  clear hr2 hs2 hr3 hs3
  rcases ok with _ | _
  · go_wp2_with fail
    go_returns
    exact ⟨rfl, hB3⟩
  obtain ⟨hpg, hck⟩ := check_iff HX.out HV.out
  obtain ⟨hv0, hv1⟩ := check_one HX.out HV.out
  have hok := (paging_iff hpg).1
  rw [HY.out] at hv1
  have HPG := Lib.hid hpg
  have HCK := Lib.hid hck
  have HOK := Lib.hid hok
  have HV1 := Lib.hid hv1
  clear hpg hck hok hv1
  have hz3 := hB3.size
  go_wp2_with fail
  go_loopg [10, 11] q (fun k f i wr => ∃ (j p : Nat) (t : Int), j ≤ q ∧ k = q - j ∧ i = .int .i64 j ∧ f = .int .i64 (p : Int) ∧ p ≤ m ∧ Hid (ckF xs h (ys.take j) = some (p, t)) ∧ Below w3.heap.size w3 wr)
  case atStart => exact ⟨0, 0, 0, Nat.zero_le _, rfl, rfl, rfl, Nat.zero_le _, rfl, Below.refl _ _⟩
  case round =>
    obtain ⟨j, p, t, hj, hk, rfl, rfl, hpm, hc2, hbel⟩ := hrel
    have HK := Lib.hid hk; clear hk
    have hsz := hbel.size
    by_cases hlt : j < q
    · obtain ⟨e, he, hpe, hem, hfit, c, _, hnext⟩ := ck_fits HX.out (l := ys) (j := j) (by rw [HY.out]; exact hlt) hc2.out HCK.out
      have hhv : heightV xs (p : Int) (e : Int) = pageH (seg xs p e) := height_yes HOK.out HX.out (by omega) hem
      obtain ⟨a, ha⟩ : ∃ a, pageH (seg xs p e) = a := ⟨_, rfl⟩
      rw [ha] at hhv hfit
      obtain ⟨b, off, hBB, hb, hcc⟩ := HS3.out.at1 (by omega)
      have c0 : wr.cell? ⟨b, off + j, none⟩ = _ := (hbel.cell (p := ⟨b, off + j, none⟩) hb).trans (hcc j hlt)
      simp only [inc, he] at c0
      subst hBB
      have hbw : b < wr.heap.size := by omega
      have HHV := Lib.hid hhv
      have HNEXT := Lib.hid hnext
      have hrr := Lib.hid (HR3.out.then_ hbel)
      have hlt' : (j : Int) < (q : Int) := by omega
      clear hhv hnext ha he hcc
      go_wp2_with fail
      ((with_reducible refine (heightV_i _ _ _ _ _ xs _ HX.out hmx HCP.out ?_).mono ?_); (exact hrr.out); rintro e w5 ⟨rfl, hb5⟩)
      rw [HHV.out]
      have c5 : w5.cell? ⟨b, off + j, none⟩ = _ := (hb5.cell (p := ⟨b, off + j, none⟩) hbw).trans c0
      go_wp2_with fail
      go_roundg (q - (j + 1))
      case measure => have := HK.out; omega
      case rel => exact ⟨j + 1, _, _, by omega, rfl, by go_num, rfl, hem, HNEXT.out, below_then (Nat.le_refl _) hbel hb5⟩
    · have hB := below_then (Nat.le_refl _) hB3 hbel
      rcases HV1.out with h1 | h1
      · have h1' : (1 : Int) < (q : Int) := by omega
        go_wp2_with fail
        go_returns
        exact ⟨by simp, hB⟩
      · subst h1
        by_cases h2 : 1 < q
        · have h1' : (1 : Int) < (q : Int) := by omega
          go_wp2_with fail
          go_returns
          exact ⟨by simp, hB⟩
        · have h1' : ¬ (1 : Int) < (q : Int) := by omega
          go_wp2_with fail
          go_returns
          exact ⟨by simp, hB⟩
end Go.Proofs.Yticdgpgbpgjnbaa
