/- Slices of slices of numbers, of the call's own: how they grow, how they are compared, marked and read. Conditions: the slices read as lists; few elements. -/
import Derived.Test.YtpcjoehdbohaoaaMarksK
import Derived.Test.YtpcjoehdbohaoaaOwnP
import Derived.Test.YtpcjoehdbohaoaaAppend3
import Derived.Test.YtpcjoehdbohaoaaLists
import Derived.Deep.RegionHeld3
import Derived.Deep.QuietTactic
import Derived.BigQuiet
namespace Go.Proofs.Ytpcjoehdbohaoaa
open Go.RowKit

def rr (rows : List (List Int)) (i : Nat) : List Int := rows.getD i default
/-- A slice of slices that reads as rows. -/
def RowsAt (w : World) (B : Nat) (A : Option Addr) (n : Nat) (rows : List (List Int)) : Prop :=
  rows.length = n ∧ ∃ (As : Nat → Option Addr) (cs : Nat → Nat), Row w B 1 A n (fun i _ => .slice (As i) (rr rows i).length (cs i)) ∧ ∀ i, i < n → Row w B 1 (As i) (rr rows i).length (inc (rr rows i))
/-- Rows that the call owns, in blocks of their own. -/
def RowsOwn (w : World) (base : Nat) (A : Option Addr) (n c : Nat) (rows : List (List Int)) (G : Nat → Option Addr) (cp : Nat → Nat) : Prop :=
  rows.length = n ∧ OwnP w base 24 1 A n c (fun i _ => .slice (G i) (rr rows i).length (cp i)) ∧ (∀ i, i < n → OwnI w base (G i) (rr rows i).length (cp i) (rr rows i)) ∧
    (∀ i, i < n → ∀ x, G i = some x → ∀ y, A = some y → x.block ≠ y.block) ∧ ∀ i j, i < j → j < n → ∀ x, G i = some x → ∀ y, G j = some y → x.block ≠ y.block
section
variable {w w' : World} {base n c : Nat} {A : Option Addr} {rows : List (List Int)} {G : Nat → Option Addr} {cp : Nat → Nat}
theorem RowsOwn.at_ (h : RowsOwn w base A n c rows G cp) : RowsAt w w.heap.size A n rows :=
  ⟨h.1, G, cp, h.2.1.row, fun i hi => (h.2.2.1 i hi).row⟩
theorem RowsOwn.then_ (h : RowsOwn w base A n c rows G cp) (hb : Below w.heap.size w w') : RowsOwn w' base A n c rows G cp :=
  ⟨h.1, h.2.1.then_ hb, fun i hi => (h.2.2.1 i hi).then_ hb, h.2.2.2⟩
theorem RowsOwn.mono {base' : Nat} (h : RowsOwn w base A n c rows G cp) (hb : base' ≤ base) : RowsOwn w base' A n c rows G cp :=
  ⟨h.1, h.2.1.mono hb, fun i hi => (h.2.2.1 i hi).mono hb, h.2.2.2⟩
theorem RowsOwn.nil (w : World) (base : Nat) : RowsOwn w base none 0 0 [] (fun _ => none) (fun _ => 0) :=
  ⟨rfl, ⟨[], ⟨rfl, .inl ⟨rfl, rfl⟩⟩, fun i q hi => absurd hi (by omega)⟩, fun i hi => absurd hi (by omega), fun i hi => absurd hi (by omega), fun i j _ hj => absurd hj (by omega)⟩
/-- A block that lies below the rows, or beyond what there was when they were made, turns. -/
theorem RowsOwn.grown {row : Option Nat} {hi : Nat} (h : RowsOwn w base A n c rows G cp) (hg : w.grownBy w' row) (hA : ∀ y, A = some y → y.block < hi) (hG : ∀ i, i < n → ∀ x, G i = some x → x.block < hi) (hr : ∀ r, row = some r → r < base ∨ hi ≤ r) : RowsOwn w' base A n c rows G cp := by
  refine ⟨h.1, h.2.1.kept hg ?_, fun i hi' => World.ownsRow.kept (h.2.2.1 i hi') hg ?_, h.2.2.2⟩
  · cases A with
    | none => exact .inl rfl
    | some y =>
      refine .inr (fun e => ?_)
      have h1 := hA y rfl
      have h2 := (h.2.1.blk y rfl).1
      have h3 := hr y.block (by rw [← e]; rfl)
      omega
  · rcases hq : G i with _ | x
    · exact .inl rfl
    · refine .inr (fun e => ?_)
      have h1 := hG i hi' x hq
      have h2 := ((h.2.2.1 i hi').blk x hq).1
      have h3 := hr x.block (by rw [← e]; rfl)
      omega
theorem RowsOwn.blkA (h : RowsOwn w base A n c rows G cp) : ∀ y, A = some y → y.block < w.heap.size := fun y hy => (h.2.1.blk y hy).2
theorem RowsOwn.blkG (h : RowsOwn w base A n c rows G cp) : ∀ i, i < n → ∀ x, G i = some x → x.block < w.heap.size := fun i hi x hx => ((h.2.2.1 i hi).blk x hx).2
theorem rr_old {ys : List Int} {i : Nat} (hn : rows.length = n) (hi : i < n) : rr (rows ++ [ys]) i = rr rows i := by
  rw [rr, rr, List.getD_eq_getElem?_getD, List.getD_eq_getElem?_getD, List.getElem?_append_left (by omega)]
theorem rr_new {ys : List Int} (hn : rows.length = n) : rr (rows ++ [ys]) n = ys := by
  rw [rr, List.getD_eq_getElem?_getD, List.getElem?_append_right (by omega), hn, Nat.sub_self]
  rfl
/-- One row more. -/
theorem RowsOwn.snoc {D : Option Addr} {d g c' : Nat} {ys : List Int} {L : List Value} (h : RowsOwn w base A n c rows G cp) (hL : ∀ i q, i < n → q < 1 → L[i * 1 + q]? = some (.slice (G i) (rr rows i).length (cp i))) (hLn : L.length = n)
    (hD : OwnI w base D ys.length d ys) (hDA : ∀ x, D = some x → ∀ y, A = some y → x.block ≠ y.block) (hDG : ∀ i, i < n → ∀ x, G i = some x → ∀ y, D = some y → x.block ≠ y.block)
    (hown : w'.ownsRow base 24 1 (.slice (some ⟨g, 0, none⟩) (n + 1) c') (n + 1) (L ++ [.slice D ys.length d])) (hg : w.grownBy w' (Value.ownBlock (.slice A n c))) (hat : Value.ownBlock (.slice A n c) = some g ∨ g = w.heap.size) :
    RowsOwn w' base (some ⟨g, 0, none⟩) (n + 1) c' (rows ++ [ys]) (fun i => if i = n then D else G i) (fun i => if i = n then d else cp i) := by
  have hn := h.1
  have hne : ∀ x : Addr, x.block < w.heap.size → (∀ y, A = some y → x.block ≠ y.block) → x.block ≠ g := by
    intro x hx hy e
    rcases hat with h1 | h1
    · cases A with
      | none => cases h1
      | some y => exact hy y rfl (by have : y.block = g := by simpa [Value.ownBlock] using h1
                                     omega)
    · omega
  refine ⟨by simp [hn], ⟨_, hown, fun i q hi hq => ?_⟩, fun i hi => ?_, fun i hi x hx y hy => ?_, fun i j hij hj x hx y hy => ?_⟩
  · by_cases e : i = n
    · subst e
      obtain rfl : q = 0 := by omega
      rw [List.getElem?_append_right (by omega), hLn]
      simp [rr_new hn]
    · obtain rfl : q = 0 := by omega
      rw [List.getElem?_append_left (by omega)]
      simp only [if_neg e]
      rw [rr_old hn (by omega)]
      exact hL i 0 (by omega) (by omega)
  · by_cases e : i = n
    · subst e
      simp only [if_true, rr_new hn]
      exact hD.apart hg hDA
    · simp only [if_neg e]
      rw [rr_old hn (by omega)]
      exact (h.2.2.1 i (by omega)).apart hg (fun x hx y hy => h.2.2.2.1 i (by omega) x hx y hy)
  · injection hy with hy
    subst hy
    by_cases e : i = n
    · simp only [if_pos e] at hx
      exact hne x (hD.blk x hx).2 (hDA x hx)
    · simp only [if_neg e] at hx
      exact hne x ((h.2.2.1 i (by omega)).blk x hx).2 (h.2.2.2.1 i (by omega) x hx)
  · have ei : ¬ i = n := by omega
    simp only [if_neg ei] at hx
    by_cases e : j = n
    · simp only [if_pos e] at hy
      exact hDG i (by omega) x hx y hy
    · simp only [if_neg e] at hy
      exact h.2.2.2.2 i j hij (by omega) x hx y hy
end

set_option maxHeartbeats 1000000 in
theorem eqIntSS_same (A A' : Option Addr) (n cap cap' : Nat) (rows : List (List Int)) (w : World) (hm : n ≤ maxLen) (hml : ∀ i, i < n → (rr rows i).length ≤ maxLen) (hr : RowsAt w w.heap.size A n rows) (hr' : RowsAt w w.heap.size A' n rows) :
    Calls Try.prog 33 #[.slice A n cap, .slice A' n cap'] w fun e w' => e = .returned (.bool true) ∧ Below w.heap.size w w' := by
  unfold maxLen at hm
  obtain ⟨_, As, cs, h2, h3⟩ := hr
  obtain ⟨_, As', cs', h2', h3'⟩ := hr'
  have H3 := Lib.hid h3
  have H3' := Lib.hid h3'
  clear h3 h3'
  go_enter Try.func33, Try.ntmps33
  go_wp2_with fail
  go_loopg [5] n (fun k i wr => ∃ j : Nat, j ≤ n ∧ k = n - j ∧ i = .int .i64 j ∧ Below w.heap.size w wr)
  case atStart => exact ⟨0, Nat.zero_le _, rfl, rfl, Below.refl _ _⟩
  case round =>
    obtain ⟨j, hj, hk, rfl, hbel⟩ := hrel
    have HK := Lib.hid hk; clear hk
    have hsz := hbel.size
    by_cases hlt : j < n
    · obtain ⟨b', off', rfl, hb', hc'⟩ := h2'.at1 (by omega)
      have d0 : wr.cell? ⟨b', off' + j, none⟩ = _ := (hbel.cell (p := ⟨b', off' + j, none⟩) hb').trans (hc' j hlt)
      obtain ⟨b, off, rfl, hb, hc⟩ := h2.at1 (by omega)
      have c0 : wr.cell? ⟨b, off + j, none⟩ = _ := (hbel.cell (p := ⟨b, off + j, none⟩) hb).trans (hc j hlt)
      have hlm := hml j hlt
      have hi := H3.out j hlt
      have hi' := H3'.out j hlt
      obtain ⟨x, hx⟩ : ∃ x, rr rows j = x := ⟨_, rfl⟩
      rw [hx] at c0 d0 hlm hi hi'
      obtain ⟨m, hm'⟩ : ∃ m, x.length = m := ⟨_, rfl⟩
      rw [hm'] at c0 d0 hlm hi hi'
      obtain ⟨C, hC⟩ : ∃ C, cs j = C := ⟨_, rfl⟩
      obtain ⟨C', hC'⟩ : ∃ C', cs' j = C' := ⟨_, rfl⟩
      obtain ⟨D, hD⟩ : ∃ D, As j = D := ⟨_, rfl⟩
      obtain ⟨D', hD'⟩ : ∃ D', As' j = D' := ⟨_, rfl⟩
      rw [hC, hD] at c0
      rw [hC', hD'] at d0
      rw [hD] at hi
      rw [hD'] at hi'
      have HI := Lib.hid hi
      have HI' := Lib.hid hi'
      clear hc hc' hx hm' hC hC' hD hD' hi hi'
      have hlt' : (j : Int) < (n : Int) := by omega
      have hbw : b < wr.heap.size := by omega
      have hbw' : b' < wr.heap.size := by omega
      go_wp2_with fail
      go_region_held3 (fun w' => w'.cell? ⟨b, off + j, none⟩ = some (.slice D m C) ∧ w'.cell? ⟨b', off' + j, none⟩ = some (.slice D' m C') ∧ Below w.heap.size w w')
        (first | exact ⟨c0, d0, hbel⟩ | exact ⟨c0, d0, hbel.drew⟩ | exact ⟨e0, e1, below_then (Nat.le_refl _) hbel.drew hb1⟩)
        (first | (go_at_call 15; refine (eqIntS_same _ _ _ _ _ x _ hlm (by first | exact (HI.out.below hbel).more hsz | exact (HI.out.below hbel.drew).more hsz) (by first | exact (HI'.out.below hbel).more hsz | exact (HI'.out.below hbel.drew).more hsz)).mono ?_; rintro e w' ⟨rfl, hb1⟩; have e0 := (hb1.cell (p := ⟨b, off + j, none⟩) hbw).trans c0; have e1 := (hb1.cell (p := ⟨b', off' + j, none⟩) hbw').trans d0))
      go_wp2_with fail
      go_roundg (n - (j + 1))
      case measure => have := HK.out; omega
      case rel => exact ⟨j + 1, by omega, rfl, by go_num, by (repeat' (first | (with_reducible exact Below.refl _ _) | (with_reducible assumption) | (with_reducible refine Below.alloc ?_ ?_ _) | (with_reducible refine Below.drew ?_) | (with_reducible refine below_drewN ?_ _) | (with_reducible refine Below.setCell ?_ ?_ _) | (with_reducible refine below_then ?_ ?_ (by with_reducible assumption)) | (with_reducible exact Nat.le_refl _) | go_size | (simp only [*]; done)))⟩
    · go_wp2_with fail
      go_ret
      exact ⟨rfl, hbel⟩

/-- How many numbers there are ahead of row j. -/
def upTo (rows : List (List Int)) (j : Nat) : Nat := ((rows.take j).map List.length).sum
theorem upTo_succ {rows : List (List Int)} {n j : Nat} (hn : rows.length = n) (hj : j < n) : upTo rows (j + 1) = upTo rows j + (rr rows j).length := by
  rw [upTo, tk_snoc' hn hj rfl, List.map_append, List.sum_append]
  simp [upTo, rr]
/-- Rows of which the first j are marked. -/
def mkRow (rows : List (List Int)) (j i : Nat) : List Int := if i < j then marksK (1 + (upTo rows i : Int)) (rr rows i).length else rr rows i
def mkRows (rows : List (List Int)) (n j : Nat) : List (List Int) := (List.range n).map (mkRow rows j)
theorem mkRows_rr {rows : List (List Int)} {n j i : Nat} (hi : i < n) : rr (mkRows rows n j) i = mkRow rows j i := by
  rw [rr, List.getD_eq_getElem?_getD, mkRows, List.getElem?_map, List.getElem?_range hi]
  rfl
theorem mkRow_len (rows : List (List Int)) (j i : Nat) : (mkRow rows j i).length = (rr rows i).length := by
  rw [mkRow]
  split
  · rw [marksK_len]
  · rfl

set_option maxHeartbeats 2000000 in
theorem markIntSS_any (A : Option Addr) (n c base : Nat) (rows : List (List Int)) (G : Nat → Option Addr) (cp : Nat → Nat) (w : World) (hm : n ≤ 1000) (hml : ∀ i, i < n → (rr rows i).length ≤ 1000) (hT : ∀ j, j ≤ n → upTo rows j ≤ 1000000) (h : RowsOwn w base A n c rows G cp) (hbase : base ≤ w.heap.size) :
    Calls Try.prog 34 #[.slice A n c, .int .i64 1] w fun e w' => e = .returned (.int .i64 (1 + (upTo rows n : Int))) ∧ RowsOwn w' base A n c (mkRows rows n n) G cp ∧ Below base w w' := by
  obtain ⟨hn, hA, hG, hGA, hGG⟩ := h
  have HN := Lib.hid hn
  have HA := Lib.hid hA
  have HG := Lib.hid hG
  have HGA := Lib.hid hGA
  have HGG := Lib.hid hGG
  have HT := Lib.hid hT
  have HML := Lib.hid hml
  clear hn hA hG hGA hGG hT hml
  go_enter Try.func34, Try.ntmps34
  go_wp2_with fail
  go_loopg [1, 5] n (fun kk r i wr => ∃ j : Nat, j ≤ n ∧ kk = n - j ∧ i = .int .i64 (j : Int) ∧ r = .int .i64 (1 + (upTo rows j : Int)) ∧ Hid (OwnP wr base 24 1 A n c (fun i _ => .slice (G i) (rr rows i).length (cp i))) ∧ Hid (∀ i, i < n → OwnI wr base (G i) (rr rows i).length (cp i) (mkRow rows j i)) ∧ Below base w wr)
  case atStart => exact ⟨0, Nat.zero_le _, rfl, rfl, rfl, HA.out, fun i hi => (HG.out i hi).eq (by rw [mkRow, if_neg (by omega)]), Below.refl _ _⟩
  case round =>
    obtain ⟨j, hj, hk, rfl, rfl, hown, hrow, hbel⟩ := hrel
    have HK := Lib.hid hk; clear hk
    have hsz := hbel.size
    have hTj := HT.out j hj
    by_cases hlt : j < n
    · obtain ⟨b, off, hAe, hb, hc⟩ := hown.out.row.at1 (by omega)
      have c0 := hc j hlt
      have hgr := hrow.out j hlt
      rw [mkRow, if_neg (by omega)] at hgr
      have hlm := HML.out j hlt
      have hups := upTo_succ HN.out hlt
      obtain ⟨m, hm'⟩ : ∃ m, (rr rows j).length = m := ⟨_, rfl⟩
      have HM := Lib.hid hm'
      rw [hm'] at c0 hlm hgr hups
      obtain ⟨C, hC⟩ : ∃ C, cp j = C := ⟨_, rfl⟩
      obtain ⟨D, hD⟩ : ∃ D, G j = D := ⟨_, rfl⟩
      rw [hC, hD] at c0 hgr
      have HC := Lib.hid hC
      have HD := Lib.hid hD
      have HGR := Lib.hid hgr
      have HU := Lib.hid hups
      have HAE := Lib.hid hAe
      have hlt' : (j : Int) < (n : Int) := by omega
      clear hc hm' hC hD hgr hups
      subst hAe
      obtain ⟨u, hu⟩ : ∃ u, upTo rows j = u := ⟨_, rfl⟩
      rw [hu] at HU hTj ⊢
      have HUU := Lib.hid hu
      clear hu
      go_wp2_with fail
      ((with_reducible refine (markIntS_k _ _ _ _ base _ _ (by omega) (by omega) (by omega) HGR.out).mono ?_); rintro e w2 ⟨rfl, hm2, hg2⟩)
      have hB2 : Below base w w2 := hbel.grown hg2 (Nat.le_trans hbase hsz) (fun k hk => (HGR.out.block k hk).1)
      have hown2 : OwnP w2 base 24 1 (some ⟨b, off, none⟩) n c (fun i _ => .slice (G i) (rr rows i).length (cp i)) := hown.out.apart hg2 (fun x hx y hy e => HGA.out j hlt y (HD.out.trans hy) x hx e.symm)
      have hrow2 : ∀ i, i < n → OwnI w2 base (G i) (rr rows i).length (cp i) (mkRow rows (j + 1) i) := by
        intro i hi
        by_cases e : i = j
        · subst e
          rw [HD.out, HC.out, mkRow, if_pos (by omega), HUU.out, HM.out]
          exact hm2
        · have e2 : mkRow rows (j + 1) i = mkRow rows j i := by
            unfold mkRow
            by_cases h : i < j
            · rw [if_pos h, if_pos (by omega)]
            · rw [if_neg h, if_neg (by omega)]
          rw [e2]
          refine (hrow.out i hi).apart hg2 fun x hx y hy => ?_
          rcases Nat.lt_or_gt_of_ne e with h | h
          · exact HGG.out i j h hlt x hx y (HD.out.trans hy)
          · exact fun e' => HGG.out j i h hi y (HD.out.trans hy) x hx e'.symm
      have HO2 := Lib.hid hown2
      have HR2 := Lib.hid hrow2
      clear hown2 hrow2 hm2
      go_wp2_with fail
      go_roundg (n - (j + 1))
      case measure => have := HK.out; omega
      case rel => exact ⟨j + 1, by omega, rfl, by go_num, by rw [HU.out]; go_num, HO2.out, HR2.out, hB2⟩
    · have ej : j = n := by omega
      subst ej
      go_wp2_with fail
      go_ret
      refine ⟨rfl, ⟨by simp [mkRows], hown.out.congr (fun i q hi hq => by rw [mkRows_rr hi, mkRow_len]), fun i hi => ?_, HGA.out, HGG.out⟩, hbel⟩
      rw [mkRows_rr hi, mkRow_len]
      exact hrow.out i hi

set_option maxHeartbeats 2000000 in
theorem heldIntSS_any (A : Option Addr) (n cap : Nat) (rows : List (List Int)) (w : World) (hn : rows.length = n) (hm : n ≤ 1000) (hml : ∀ i, i < n → (rr rows i).length ≤ 1000) (hT : ∀ j, j ≤ n → upTo rows j ≤ 1000000) (hr : RowsAt w w.heap.size A n (mkRows rows n n)) :
    Calls Try.prog 35 #[.slice A n cap, .int .i64 1] w fun e w' => e = .returned (.int .i64 (1 + (upTo rows n : Int))) ∧ Below w.heap.size w w' := by
  obtain ⟨_, As, cs, h2, h3⟩ := hr
  have HN := Lib.hid hn
  have HT := Lib.hid hT
  have HML := Lib.hid hml
  have H3 := Lib.hid h3
  clear hn hT hml h3
  go_enter Try.func35, Try.ntmps35
  go_wp2_with fail
  go_loopg [1, 5] n (fun kk r i wr => ∃ j : Nat, j ≤ n ∧ kk = n - j ∧ i = .int .i64 (j : Int) ∧ r = .int .i64 (1 + (upTo rows j : Int)) ∧ Below w.heap.size w wr)
  case atStart => exact ⟨0, Nat.zero_le _, rfl, rfl, rfl, Below.refl _ _⟩
  case round =>
    obtain ⟨j, hj, hk, rfl, rfl, hbel⟩ := hrel
    have HK := Lib.hid hk; clear hk
    have hsz := hbel.size
    have hTj := HT.out j hj
    by_cases hlt : j < n
    · obtain ⟨b, off, rfl, hb, hc⟩ := h2.at1 (by omega)
      have c0 : wr.cell? ⟨b, off + j, none⟩ = _ := (hbel.cell (p := ⟨b, off + j, none⟩) hb).trans (hc j hlt)
      have hi := H3.out j hlt
      have hlm := HML.out j hlt
      have hups := upTo_succ HN.out hlt
      rw [mkRows_rr hlt, mkRow_len] at c0 hi
      rw [mkRow, if_pos hlt] at hi
      obtain ⟨m, hm'⟩ : ∃ m, (rr rows j).length = m := ⟨_, rfl⟩
      rw [hm'] at c0 hlm hi hups
      obtain ⟨C, hC⟩ : ∃ C, cs j = C := ⟨_, rfl⟩
      obtain ⟨D, hD⟩ : ∃ D, As j = D := ⟨_, rfl⟩
      rw [hC, hD] at c0
      rw [hD] at hi
      obtain ⟨u, hu⟩ : ∃ u, upTo rows j = u := ⟨_, rfl⟩
      rw [hu] at hups hTj hi ⊢
      have HI := Lib.hid hi
      have HU := Lib.hid hups
      have hlt' : (j : Int) < (n : Int) := by omega
      clear hc hm' hC hD hi hups hu
      go_wp2_with fail
      ((with_reducible refine (heldIntS_k _ _ _ _ _ (by omega) (by omega) (by omega) ?_).mono ?_); (exact (HI.out.below hbel).more hsz); rintro e w2 ⟨rfl, hb2⟩)
      have hB2 := below_then (Nat.le_refl _) hbel hb2
      go_wp2_with fail
      go_roundg (n - (j + 1))
      case measure => have := HK.out; omega
      case rel => exact ⟨j + 1, by omega, rfl, by go_num, by rw [HU.out]; go_num, hB2⟩
    · have ej : j = n := by omega
      subst ej
      go_wp2_with fail
      go_ret
      exact ⟨rfl, hbel⟩
end Go.Proofs.Ytpcjoehdbohaoaa
