/- Lines of a text without their copies: the plain type, eqLine, eqLineS, the cells of a row of lines. Conditions: the slices read as lists. -/
import Derived.Test.YtlgbeoghjjjlmaaLists
import Derived.Test.YtlgbeoghjjjlmaaOwnP
import Derived.Test.YtlgbeoghjjjlmaaAppend
import Derived.Deep.RegionHeld3
namespace Go.Proofs.Ytlgbeoghjjjlmaa
open Go.RowKit

structure Ln where
  a : Int
  b : Int
  c : Int
deriving Inhabited
/-- The cells of a list of lines. -/
def lnc (xs : List Ln) (i j : Nat) : Value := match j with
  | 0 => .int .i64 (xs.getD i default).a
  | 1 => .int .i64 (xs.getD i default).b
  | _ => .int .i64 (xs.getD i default).c

theorem eqLine_same (a b c : Int) (w : World) :
    Calls Try.prog 55 #[.agg #[.int .i64 a, .int .i64 b, .int .i64 c], .agg #[.int .i64 a, .int .i64 b, .int .i64 c]] w fun e w' => e = .returned (.bool true) ∧ Below w.heap.size w w' := by
  go_enter Try.func55, Try.ntmps55
  go_wp2
  go_returns
  exact ⟨rfl, by (repeat' (first | (with_reducible exact Below.refl _ _) | (with_reducible assumption) | (with_reducible refine Below.alloc ?_ ?_ _) | (with_reducible refine Below.drew ?_) | (with_reducible refine below_drewN ?_ _) | (with_reducible refine Below.setCell ?_ ?_ _) | (with_reducible refine below_then ?_ ?_ (by with_reducible assumption)) | (with_reducible exact Nat.le_refl _) | go_size | (simp only [*]; done)))⟩

theorem line_info : (Try.prog.info? 36).map (fun i => (i.zero, i.size, i.bytes)) = some (some (.agg #[.int .i64 0, .int .i64 0, .int .i64 0]), 3, 24) := by kernel_rfl


theorem eqLineS_same (A A' : Option Addr) (n cap cap' : Nat) (xs : List Ln) (w : World) (hm : n ≤ maxLen) (hr : Row w w.heap.size 3 A n (lnc xs)) (hr' : Row w w.heap.size 3 A' n (lnc xs)) :
    Calls Try.prog 26 #[.slice A n cap, .slice A' n cap'] w fun e w' => e = .returned (.bool true) ∧ Below w.heap.size w w' := by
  unfold maxLen at hm
  go_enter Try.func26, Try.ntmps26
  go_wp2_with fail
  go_loopg [5] n (fun k i wr => ∃ j : Nat, j ≤ n ∧ k = n - j ∧ i = .int .i64 j ∧ Below w.heap.size w wr)
  case atStart => exact ⟨0, Nat.zero_le _, rfl, rfl, Below.refl _ _⟩
  case round =>
    obtain ⟨j, hj, hk, rfl, hbel⟩ := hrel
    have HK := Lib.hid hk; clear hk
    have hsz := hbel.size
    by_cases hlt : j < n
    · obtain ⟨b', off', rfl, hb', hc'⟩ := hr' (by omega)
      have d0 : wr.cell? ⟨b', off' + j * 3, none⟩ = _ := (hbel.cell (p := ⟨b', off' + j * 3, none⟩) hb').trans (hc' j 0 hlt (by omega))
      have d1 : wr.cell? ⟨b', off' + j * 3 + 1, none⟩ = _ := (hbel.cell (p := ⟨b', off' + j * 3 + 1, none⟩) hb').trans (hc' j 1 hlt (by omega))
      have d2 : wr.cell? ⟨b', off' + j * 3 + 2, none⟩ = _ := (hbel.cell (p := ⟨b', off' + j * 3 + 2, none⟩) hb').trans (hc' j 2 hlt (by omega))
      obtain ⟨b, off, rfl, hb, hc⟩ := hr (by omega)
      have c0 : wr.cell? ⟨b, off + j * 3, none⟩ = _ := (hbel.cell (p := ⟨b, off + j * 3, none⟩) hb).trans (hc j 0 hlt (by omega))
      have c1 : wr.cell? ⟨b, off + j * 3 + 1, none⟩ = _ := (hbel.cell (p := ⟨b, off + j * 3 + 1, none⟩) hb).trans (hc j 1 hlt (by omega))
      have c2 : wr.cell? ⟨b, off + j * 3 + 2, none⟩ = _ := (hbel.cell (p := ⟨b, off + j * 3 + 2, none⟩) hb).trans (hc j 2 hlt (by omega))
      obtain ⟨x, hx⟩ : ∃ x, xs.getD j default = x := ⟨_, rfl⟩
      simp only [lnc, hx] at c0 c1 c2 d0 d1 d2
      clear hc hc' hx
      have hlt' : (j : Int) < (n : Int) := by omega
      have hbw : b < wr.heap.size := by omega
      have hbw' : b' < wr.heap.size := by omega
      go_wp2_with fail
      go_region_held3 (fun w' => w'.cell? ⟨b, off + j * 3, none⟩ = some (.int .i64 x.a) ∧ w'.cell? ⟨b, off + j * 3 + 1, none⟩ = some (.int .i64 x.b) ∧ w'.cell? ⟨b, off + j * 3 + 2, none⟩ = some (.int .i64 x.c) ∧ w'.cell? ⟨b', off' + j * 3, none⟩ = some (.int .i64 x.a) ∧ w'.cell? ⟨b', off' + j * 3 + 1, none⟩ = some (.int .i64 x.b) ∧ w'.cell? ⟨b', off' + j * 3 + 2, none⟩ = some (.int .i64 x.c) ∧ Below w.heap.size w w')
        (first | exact ⟨c0, c1, c2, d0, d1, d2, hbel⟩ | exact ⟨c0, c1, c2, d0, d1, d2, hbel.drew⟩ | exact ⟨e0, e1, e2, e3, e4, e5, below_then (Nat.le_refl _) hbel.drew hb1⟩)
        (first | (go_at_call 55; refine (eqLine_same _ _ _ _).mono ?_; rintro e w' ⟨rfl, hb1⟩; have e0 := (hb1.cell (p := ⟨b, off + j * 3, none⟩) hbw).trans c0; have e1 := (hb1.cell (p := ⟨b, off + j * 3 + 1, none⟩) hbw).trans c1; have e2 := (hb1.cell (p := ⟨b, off + j * 3 + 2, none⟩) hbw).trans c2; have e3 := (hb1.cell (p := ⟨b', off' + j * 3, none⟩) hbw').trans d0; have e4 := (hb1.cell (p := ⟨b', off' + j * 3 + 1, none⟩) hbw').trans d1; have e5 := (hb1.cell (p := ⟨b', off' + j * 3 + 2, none⟩) hbw').trans d2))
      go_wp2_with fail
      go_roundg (n - (j + 1))
      case measure => have := HK.out; omega
      case rel => exact ⟨j + 1, by omega, rfl, by go_num, by (repeat' (first | (with_reducible exact Below.refl _ _) | (with_reducible assumption) | (with_reducible refine Below.alloc ?_ ?_ _) | (with_reducible refine Below.drew ?_) | (with_reducible refine below_drewN ?_ _) | (with_reducible refine Below.setCell ?_ ?_ _) | (with_reducible refine below_then ?_ ?_ (by with_reducible assumption)) | (with_reducible exact Nat.le_refl _) | go_size | (simp only [*]; done)))⟩
    · go_wp2_with fail
      go_ret
      exact ⟨rfl, hbel⟩

def lnl (b : Ln) : List Value := [.int .i64 b.a, .int .i64 b.b, .int .i64 b.c]
theorem lnl_one (b : Ln) : ∀ u ∈ lnl b, u.oneCell' = true := by intro u hu; simp [lnl] at hu; rcases hu with rfl | rfl | rfl <;> rfl
theorem lnl_len (b : Ln) : (lnl b).length = 3 := rfl
theorem lnl_at {xs : List Ln} : ∀ i q, i < xs.length → q < 3 → (xs.flatMap lnl)[i * 3 + q]? = some (lnc xs i q) := by
  intro i q hi hq
  rw [flat_at lnl 3 lnl_len xs i q hi hq]
  match q, hq with
  | 0, _ => rfl
  | 1, _ => rfl
  | 2, _ => rfl
end Go.Proofs.Ytlgbeoghjjjlmaa
