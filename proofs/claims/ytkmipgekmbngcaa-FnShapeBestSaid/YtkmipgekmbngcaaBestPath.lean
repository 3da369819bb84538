/- bestPath returns the cheapest way through the stops. Conditions: the stops read as a list; the function value tells the costs, in memory of its own; costs and sums of costs are small. -/
import Derived.Test.YtkmipgekmbngcaaMSb5
import Derived.Test.YtkmipgekmbngcaaMSb3
import Derived.Test.YtkmipgekmbngcaaMSb2
import Derived.Shelf.Abstract
import Derived.Deep.RegionHeld3
import Derived.Deep.QuietTactic
import Derived.BigQuiet
namespace Go.Proofs.Ytkmipgekmbngcaa
open Go.RowKit

/-- The cells of one state of the table. -/
def enc (o : Option (Int × Nat)) (q : Nat) : Value := match q with
  | 0 => .int .i64 (o.getD (0, 0)).1
  | 1 => .int .i64 ((o.getD (0, 0)).2 : Int)
  | _ => .bool o.isSome
theorem step_cells {c : Nat → Nat → Option Int} {i m N : Nat} {v : Int} (e : ∀ k, stt c i (m + 1) k = if k = i then some (v, m) else stt c i m k) : ∀ k q, k < N → q < 3 →
    (if k = i ∧ q = 2 then .bool true else if k = i ∧ q = 1 then .int .i64 (m : Int) else if k = i ∧ q = 0 then .int .i64 v else enc (stt c i m k) q) = enc (stt c i (m + 1) k) q := by
  intro k q _ hq
  rw [e]
  by_cases h : k = i
  · subst h
    match q, hq with
    | 0, _ => simp [enc]
    | 1, _ => simp [enc]
    | 2, _ => simp [enc]
  · simp [h]
theorem state_info : (Try.prog.info? 98).map (fun i => (i.zero, i.size, i.bytes)) = some (some (.agg #[.int .i64 0, .int .i64 0, .bool false]), 3, 24) := by kernel_rfl

set_option maxRecDepth 100000 in
set_option maxHeartbeats 4000000 in
theorem bestPath_gen (K : Nat) (caps : Array Value) (S : Option Addr) (N n cap : Nat) (ss : List Int) (c : Nat → Nat → Option Int) (M : Int) (w : World) (eg : ∀ args w, (callFunc K args).run Try.prog w = .ok (.enter K args) w)
    (hn : ss.length = N) (hN : N = n + 1) (hn60 : n ≤ 100) (hr : Row w w.heap.size 1 S N (inc ss)) (hM : 0 ≤ M) (hM' : M ≤ 1000000000000000)
    (hrng : ∀ i v k, i ≤ n → Dp.tbl c i = some (v, k) → -M ≤ v ∧ v ≤ M) (hstep : ∀ k i s, k < i → i ≤ n → c k i = some s → -M ≤ s ∧ s ≤ M)
    (hcall : ∀ k i W, k < i → i ≤ n → Below w.heap.size w W → Calls Try.prog K (#[.int .i64 (ss.getD k default), .int .i64 (ss.getD i default)] ++ caps) W fun e W' => ∃ x : Int, e = .returned (.tuple #[.int .i64 x, .bool (c k i).isSome]) ∧ (∀ s, c k i = some s → x = s) ∧ Below W.heap.size W W') :
    Calls Try.prog 55 #[.slice S N cap, .func (.func K) #[] caps] w (PathOut w (pathV c ss n)) := by
  obtain ⟨i0, hi, hz0, hz1, hz2⟩ := info_parts state_info
  obtain ⟨j0, ji, jz0, jz1, jz2⟩ := info_parts int_info
  have hmk := make_n (P := Try.prog) 97 98 i0 _ Try.underlying97 hi hz0 N (by rw [hz2]; omega) (by omega)
  rw [hz1] at hmk
  have HN := Lib.hid hn
  have HNn := Lib.hid hN
  have HRNG := Lib.hid hrng
  have HSTEP := Lib.hid hstep
  have HCALL := Lib.hid hcall
  have HR := Lib.hid hr
  have hN1 : 1 ≤ N := by omega
  have hN2 : N ≤ 101 := by omega
  have hnN : (N : Int) - 1 = (n : Int) := by omega
  have HNN := Lib.hid hnN
  have hm : OwnP (w.alloc (.cells (madeCells #[.int .i64 0, .int .i64 0, .bool false] (N * 3)) 98)) w.heap.size 98 3 (some ⟨w.heap.size, 0, none⟩) N N (fun _ q => #[.int .i64 0, .int .i64 0, .bool false][q]!) := OwnP.made w 98 #[.int .i64 0, .int .i64 0, .bool false] N (by simp) (by unfold maxLen; omega)
  have m2 : (madeCells #[Value.int .i64 0, .int .i64 0, .bool false] (N * 3))[2]? = some (.bool false) := by
    have h1 := hm.cell (i := 0) (q := 2) (by omega) (by omega)
    rwa [Nat.zero_mul, Nat.zero_add, World.cell?_alloc_at _ _ _ _ rfl] at h1
  have hm2 := hm.set_ (i := 0) (q := 2) (by omega) (by omega) (.bool true)
  rw [Nat.zero_mul, Nat.zero_add, World.setCell_alloc_at _ _ _ _ _ rfl] at hm2
  have hm3 := hm2.congr (f' := fun k q => enc (stt c 1 0 k) q) (fun k q _ hq => by
    rw [stt_first]
    by_cases h0 : k = 0
    · subst h0
      match q, hq with
      | 0, _ => rfl
      | 1, _ => rfl
      | 2, _ => rfl
    · simp only [h0, false_and, if_false]
      match q, hq with
      | 0, _ => rfl
      | 1, _ => rfl
      | 2, _ => rfl)
  have HM := Lib.hid hm3
  have hb0 : Below w.heap.size w (w.alloc (.cells ((madeCells #[.int .i64 0, .int .i64 0, .bool false] (N * 3)).setIfInBounds 2 (.bool true)) 98)) := (Below.refl _ _).alloc (Nat.le_refl _) _
  clear hn hN hrng hstep hcall hr hnN hm hm2 hm3
  go_enter Try.func55, Try.ntmps55
  go_wp2_with fail
  go_loopg [8] (N - 1) (fun k iv wr => ∃ i : Nat, 1 ≤ i ∧ i ≤ N ∧ k = N - i ∧ iv = .int .i64 i ∧ Hid (OwnP wr w.heap.size 98 3 (some ⟨w.heap.size, 0, none⟩) N N (fun k q => enc (stt c i 0 k) q)) ∧ Below w.heap.size w wr)
  case atStart => exact ⟨1, Nat.le_refl _, hN1, rfl, by go_num, HM.out, hb0⟩
  case round =>
    obtain ⟨i, hi1, hiN, hk, rfl, hown, hbel⟩ := hrel
    have HK := Lib.hid hk; clear hk
    obtain ⟨wo, hwo⟩ : ∃ wo : World, wo = wr := ⟨_, rfl⟩
    subst hwo
    have hsz := hbel.size
    by_cases hlt : i < N
    · have hltN : (i : Int) < (N : Int) := by omega
      go_wp2_with fail
      go_loopg [28] i (fun kk mv wi => ∃ m : Nat, m ≤ i ∧ kk = i - m ∧ mv = .int .i64 m ∧ Hid (OwnP wi w.heap.size 98 3 (some ⟨w.heap.size, 0, none⟩) N N (fun k q => enc (stt c i m k) q)) ∧ Below w.heap.size w wi)
      case atStart => exact ⟨0, Nat.zero_le _, rfl, by go_num, hown.out, hbel⟩
      case round =>
        obtain ⟨m, hm, hk2, rfl, howni, hbi⟩ := hrel
        have HK2 := Lib.hid hk2; clear hk2
        obtain ⟨wi, hwi⟩ : ∃ wi : World, wi = wr := ⟨_, rfl⟩
        subst hwi
        have hszi := hbi.size
        have hgl := howni.out.lt
        by_cases hmi : m < i
        · have hmi' : (m : Int) < (i : Int) := by omega
          have hmN' : (m : Int) < (N : Int) := by omega
          obtain ⟨b, off, hS, hb, hc⟩ := HR.out.at1 (by omega)
          have c0 : wi.cell? ⟨b, off + m, none⟩ = _ := (hbi.cell (p := ⟨b, off + m, none⟩) hb).trans (hc m (by omega))
          have c1 : wi.cell? ⟨b, off + i, none⟩ = _ := (hbi.cell (p := ⟨b, off + i, none⟩) hb).trans (hc i (by omega))
          subst hS
          obtain ⟨x, hx⟩ : ∃ x, ss.getD m default = x := ⟨_, rfl⟩
          obtain ⟨y, hy⟩ : ∃ y, ss.getD i default = y := ⟨_, rfl⟩
          simp only [inc, hx, hy] at c0 c1
          have hcx := HCALL.out m i
          simp only [hx, hy] at hcx
          have hbw : b < wi.heap.size := by omega
          obtain ⟨U, hU⟩ : ∃ U, Dp.best (Dp.tbl c) (fun k => c k i) m = U := ⟨_, rfl⟩
          have p2 := howni.out.cell (i := m) (q := 2) (by omega) (by omega)
          rw [stt_lt hmi] at p2
          clear hx hy hc
          rcases hT : Dp.tbl c m with _ | q
          · rw [hT] at p2
            simp only [enc, Option.isSome_none] at p2
            have e : stt c i (m + 1) = stt c i m := stt_skip (by unfold Dp.upd; rw [hT])
            have E := Lib.hid e
            clear e hT hU hcx
            go_wp2_with fail
            go_roundg (i - (m + 1))
            case measure => have := HK2.out; omega
            case rel => exact ⟨m + 1, by omega, rfl, by go_num, (by show OwnP _ _ _ _ _ _ _ _; rw [E.out]; exact howni.out), hbi⟩
          · obtain ⟨q1, q2⟩ := q
            obtain ⟨r0, r1⟩ := HRNG.out m q1 q2 (by have := HNn.out; omega) hT
            have p0 := howni.out.cell (i := m) (q := 0) (by omega) (by omega)
            rw [stt_lt hmi] at p0
            have z0 := howni.out.cell (i := i) (q := 0) (by omega) (by omega)
            have z2 := howni.out.cell (i := i) (q := 2) (by omega) (by omega)
            rw [stt_at, hU] at z0 z2
            rw [hT] at p0 p2
            simp only [enc, Option.isSome_some, Option.getD_some, Nat.add_zero] at p0 p2 z0 z2
            have HT := Lib.hid hT
            have HU := Lib.hid hU
            clear hT hU
            rcases hC : c m i with _ | s
            · have e : stt c i (m + 1) = stt c i m := stt_skip (upd_c HT.out hC)
              have E := Lib.hid e
              simp only [hC, Option.isSome_none] at hcx
              have HCX := Lib.hid hcx
              clear e hC hcx
              go_wp2_with fail
              go_region_held3 (fun w' => w'.cell? ⟨b, off + m, none⟩ = some (.int .i64 x) ∧ w'.cell? ⟨b, off + i, none⟩ = some (.int .i64 y) ∧ Below wi.heap.size wi w')
                (first | exact ⟨c0, c1, Below.refl _ _⟩ | exact ⟨c0, c1, (Below.refl _ _).drew⟩ | exact ⟨d0, d1, hB5⟩)
                (first | (go_at_fn K; refine (HCX.out _ hmi (by have := HNn.out; omega) (by first | exact hbi | exact hbi.drew)).mono ?_; rintro e w5 ⟨x5, rfl, _, hb5⟩; have hB5 : Below wi.heap.size wi w5 := (by first | exact hb5 | exact below_then (Nat.le_refl _) (Below.refl _ _).drew hb5); have d0 := (hB5.cell (p := ⟨b, off + m, none⟩) hbw).trans c0; have d1 := (hB5.cell (p := ⟨b, off + i, none⟩) hbw).trans c1))
              go_wp2_with fail
              go_quiet (fail)
              go_wp2_with fail
              go_roundg (i - (m + 1))
              case measure => have := HK2.out; omega
              case rel => exact ⟨m + 1, by omega, rfl, by go_num, (by show OwnP _ _ _ _ _ _ _ _; rw [E.out]; exact (howni.out.then_ hB5).drewN _), below_drewN (below_then (Nat.le_refl _) hbi hB5) _⟩
            · obtain ⟨s0, s1⟩ := HSTEP.out m i s hmi (by have := HNn.out; omega) hC
              simp only [hC, Option.isSome_some] at hcx
              have hcx : ∀ W, m < i → i ≤ n → Below w.heap.size w W → Calls Try.prog K (#[.int .i64 x, .int .i64 y] ++ caps) W fun e W' => e = .returned (.tuple #[.int .i64 s, .bool true]) ∧ Below W.heap.size W W' := fun W h1 h2 h3 => (hcx W h1 h2 h3).mono fun e W' ⟨z, he, hz, hb⟩ => ⟨by rw [he, hz s rfl], hb⟩
              have HCX := Lib.hid hcx
              have w1 : IntKind.i64.wrap (q1 + s) = q1 + s := IntWalk.i64_in _ (by omega)
              rcases U with _ | ⟨b1, b2⟩
              · simp only [Option.getD_none, Option.isSome_none] at z0 z2
                have e : ∀ k, stt c i (m + 1) k = if k = i then some (q1 + s, m) else stt c i m k := stt_set (by rw [HU.out]; exact upd_first HT.out hC)
                have E := Lib.hid e
                clear e hC hcx
                go_wp2_with fail
                go_region_held3 (fun w' => w'.cell? ⟨b, off + m, none⟩ = some (.int .i64 x) ∧ w'.cell? ⟨b, off + i, none⟩ = some (.int .i64 y) ∧ Below wi.heap.size wi w')
                (first | exact ⟨c0, c1, Below.refl _ _⟩ | exact ⟨c0, c1, (Below.refl _ _).drew⟩ | exact ⟨d0, d1, hB5⟩)
                (first | (go_at_fn K; refine (HCX.out _ hmi (by have := HNn.out; omega) (by first | exact hbi | exact hbi.drew)).mono ?_; rintro e w5 ⟨rfl, hb5⟩; have hB5 : Below wi.heap.size wi w5 := (by first | exact hb5 | exact below_then (Nat.le_refl _) (Below.refl _ _).drew hb5); have d0 := (hB5.cell (p := ⟨b, off + m, none⟩) hbw).trans c0; have d1 := (hB5.cell (p := ⟨b, off + i, none⟩) hbw).trans c1; have y0 : w5.cell? ⟨w.heap.size, m * 3, none⟩ = _ := (hB5.cell (p := ⟨w.heap.size, m * 3, none⟩) hgl).trans p0; have y2 : w5.cell? ⟨w.heap.size, i * 3, none⟩ = _ := (hB5.cell (p := ⟨w.heap.size, i * 3, none⟩) hgl).trans z0; have y3 : w5.cell? ⟨w.heap.size, i * 3 + 2, none⟩ = _ := (hB5.cell (p := ⟨w.heap.size, i * 3 + 2, none⟩) hgl).trans z2))
                have h5 := howni.out.then_ hB5
                have f0 := h5.frozen (i * 3)
                have f1 := h5.frozen (i * 3 + 1)
                have f2 := h5.frozen (i * 3 + 2)
                have z5 : w5.cell? ⟨w.heap.size, i * 3 + 1, none⟩ = _ := h5.cell (i := i) (q := 1) (by omega) (by omega)
                have H5 := Lib.hid h5
                clear h5
                go_wp2_with fail
                go_quiet (fail)
                go_wp2_with fail
                go_roundg (i - (m + 1))
                case measure => have := HK2.out; omega
                case rel =>
                  refine ⟨m + 1, by omega, rfl, by go_num, ?_, ?_⟩
                  · show OwnP _ _ _ _ _ _ _ _
                    exact ((((H5.out.drewN _).set0 (i := i) (by omega) (by omega) _).set_ (i := i) (q := 1) (by omega) (by omega) _).set_ (i := i) (q := 2) (by omega) (by omega) _).congr (step_cells E.out)
                  · exact (((below_drewN (below_then (Nat.le_refl _) hbi hB5) _).setCell (by simp) _).setCell (by simp) _).setCell (by simp) _
              · simp only [Option.getD_some, Option.isSome_some] at z0 z2
                by_cases hless : q1 + s < b1
                · have e : ∀ k, stt c i (m + 1) k = if k = i then some (q1 + s, m) else stt c i m k := stt_set (by rw [HU.out]; exact upd_less HT.out hC hless)
                  have E := Lib.hid e
                  have hd : decide (q1 + s < b1) = true := decide_eq_true hless
                  clear e hC hcx
                  go_wp2_with fail
                  go_region_held3 (fun w' => w'.cell? ⟨b, off + m, none⟩ = some (.int .i64 x) ∧ w'.cell? ⟨b, off + i, none⟩ = some (.int .i64 y) ∧ Below wi.heap.size wi w')
                  (first | exact ⟨c0, c1, Below.refl _ _⟩ | exact ⟨c0, c1, (Below.refl _ _).drew⟩ | exact ⟨d0, d1, hB5⟩)
                  (first | (go_at_fn K; refine (HCX.out _ hmi (by have := HNn.out; omega) (by first | exact hbi | exact hbi.drew)).mono ?_; rintro e w5 ⟨rfl, hb5⟩; have hB5 : Below wi.heap.size wi w5 := (by first | exact hb5 | exact below_then (Nat.le_refl _) (Below.refl _ _).drew hb5); have d0 := (hB5.cell (p := ⟨b, off + m, none⟩) hbw).trans c0; have d1 := (hB5.cell (p := ⟨b, off + i, none⟩) hbw).trans c1; have y0 : w5.cell? ⟨w.heap.size, m * 3, none⟩ = _ := (hB5.cell (p := ⟨w.heap.size, m * 3, none⟩) hgl).trans p0; have y2 : w5.cell? ⟨w.heap.size, i * 3, none⟩ = _ := (hB5.cell (p := ⟨w.heap.size, i * 3, none⟩) hgl).trans z0; have y3 : w5.cell? ⟨w.heap.size, i * 3 + 2, none⟩ = _ := (hB5.cell (p := ⟨w.heap.size, i * 3 + 2, none⟩) hgl).trans z2))
                  have h5 := howni.out.then_ hB5
                  have f0 := h5.frozen (i * 3)
                  have f1 := h5.frozen (i * 3 + 1)
                  have f2 := h5.frozen (i * 3 + 2)
                  have z5 : w5.cell? ⟨w.heap.size, i * 3 + 1, none⟩ = _ := h5.cell (i := i) (q := 1) (by omega) (by omega)
                  have H5 := Lib.hid h5
                  clear h5
                  go_wp2_with fail
                  go_quiet (fail)
                  go_wp2_with fail
                  go_roundg (i - (m + 1))
                  case measure => have := HK2.out; omega
                  case rel =>
                    refine ⟨m + 1, by omega, rfl, by go_num, ?_, ?_⟩
                    · show OwnP _ _ _ _ _ _ _ _
                      exact ((((H5.out.drewN _).set0 (i := i) (by omega) (by omega) _).set_ (i := i) (q := 1) (by omega) (by omega) _).set_ (i := i) (q := 2) (by omega) (by omega) _).congr (step_cells E.out)
                    · exact (((below_drewN (below_then (Nat.le_refl _) hbi hB5) _).setCell (by simp) _).setCell (by simp) _).setCell (by simp) _
                · have e : stt c i (m + 1) = stt c i m := stt_skip (by rw [HU.out]; exact upd_keep HT.out hC hless)
                  have E := Lib.hid e
                  have hd : decide (q1 + s < b1) = false := decide_eq_false hless
                  clear e hC hcx hless
                  go_wp2_with fail
                  go_region_held3 (fun w' => w'.cell? ⟨b, off + m, none⟩ = some (.int .i64 x) ∧ w'.cell? ⟨b, off + i, none⟩ = some (.int .i64 y) ∧ Below wi.heap.size wi w')
                  (first | exact ⟨c0, c1, Below.refl _ _⟩ | exact ⟨c0, c1, (Below.refl _ _).drew⟩ | exact ⟨d0, d1, hB5⟩)
                  (first | (go_at_fn K; refine (HCX.out _ hmi (by have := HNn.out; omega) (by first | exact hbi | exact hbi.drew)).mono ?_; rintro e w5 ⟨rfl, hb5⟩; have hB5 : Below wi.heap.size wi w5 := (by first | exact hb5 | exact below_then (Nat.le_refl _) (Below.refl _ _).drew hb5); have d0 := (hB5.cell (p := ⟨b, off + m, none⟩) hbw).trans c0; have d1 := (hB5.cell (p := ⟨b, off + i, none⟩) hbw).trans c1; have y0 : w5.cell? ⟨w.heap.size, m * 3, none⟩ = _ := (hB5.cell (p := ⟨w.heap.size, m * 3, none⟩) hgl).trans p0; have y2 : w5.cell? ⟨w.heap.size, i * 3, none⟩ = _ := (hB5.cell (p := ⟨w.heap.size, i * 3, none⟩) hgl).trans z0; have y3 : w5.cell? ⟨w.heap.size, i * 3 + 2, none⟩ = _ := (hB5.cell (p := ⟨w.heap.size, i * 3 + 2, none⟩) hgl).trans z2))
                  go_wp2_with fail
                  go_quiet (fail)
                  go_wp2_with fail
                  go_roundg (i - (m + 1))
                  case measure => have := HK2.out; omega
                  case rel => exact ⟨m + 1, by omega, rfl, by go_num, (by show OwnP _ _ _ _ _ _ _ _; rw [E.out]; exact (howni.out.then_ hB5).drewN _), below_drewN (below_then (Nat.le_refl _) hbi hB5) _⟩
        · have emi : m = i := by omega
          subst emi
          have E := Lib.hid (stt_next (c := c) (i := m) (by omega))
          go_wp2_with fail
          go_roundg (N - (m + 1))
          case measure => have := HK.out; omega
          case rel => exact ⟨m + 1, by omega, by omega, rfl, by go_num, (by show OwnP _ _ _ _ _ _ _ _; rw [← E.out]; exact howni.out), hbi⟩
    · have eiN : i = N := by omega
      subst eiN
      have hgl := hown.out.lt
      have hn' : n < i := by have := HNn.out; omega
      have z0 := hown.out.cell (i := n) (q := 0) hn' (by omega)
      have z2 := hown.out.cell (i := n) (q := 2) hn' (by omega)
      rw [stt_lt hn'] at z0 z2
      simp only [enc, Nat.add_zero] at z0 z2
      rcases hT : Dp.tbl c n with _ | p
      · rw [hT] at z0 z2
        simp only [Option.getD_none, Option.isSome_none] at z0 z2
        have hni : (i : Int) - 1 = (n : Int) := HNN.out
        have E := Lib.hid (pathV_none (ss := ss) hT)
        clear hT
        go_wp2_with fail
        (first | go_returns | (refine bodyPost_ret (by simp [results, Try.results55, go_sem, *]; try rfl) rfl ?_))
        exact ⟨none, 0, by rw [E.out]; rfl, by rw [E.out]; exact ⟨rfl, .inl ⟨rfl, rfl⟩⟩, hbel⟩
      · obtain ⟨v, f⟩ := p
        rw [hT] at z0 z2
        simp only [Option.getD_some, Option.isSome_some] at z0 z2
        have hni : (i : Int) - 1 = (n : Int) := HNN.out
        have HE := Lib.hid (pathV_some (ss := ss) hT)
        obtain ⟨X, hX⟩ : ∃ X, (Dp.path c n).map (fun i => ss.getD i default) = X := ⟨_, rfl⟩
        have HX := Lib.hid hX
        have HT := Lib.hid hT
        have hE := Lib.hid (World.ownsRow_nil wo wo.heap.size 3 1)
        have hb1 : w.heap.size + 1 ≤ wo.heap.size := hgl
        clear hT hX
        go_wp2_with fail
        go_loopg [13, 14] n (fun k ov pv wi => ∃ (p q d : Nat) (A : Option Addr) (L : List Int), k = p ∧ p ≤ n ∧ pv = .int .i64 p ∧ ov = .slice A q d ∧ q + p ≤ n ∧ Hid (∃ u f, Dp.tbl c p = some (u, f)) ∧ Hid ((Dp.path c p).map (fun i => ss.getD i default) ++ L.reverse = X) ∧ Hid (OwnI wi wo.heap.size A q d L) ∧ Below wo.heap.size wo wi)
        case atStart => exact ⟨n, 0, 0, none, [], rfl, Nat.le_refl _, rfl, rfl, by omega, ⟨v, f, HT.out⟩, (by show _ = _; rw [List.reverse_nil, List.append_nil]; exact HX.out), hE.out, Below.refl _ _⟩
        case round =>
          obtain ⟨p, q, d, A, L, hk, hpn, rfl, rfl, hqp, htb, hpath, hownl, hbl⟩ := hrel
          have HK := Lib.hid hk; clear hk
          have hszl := hbl.size
          have hBl := below_then (Nat.le_refl _) hbel hbl
          have hst := hown.out.then_ hbl
          by_cases hp : 0 < p
          · have hp' : (0 : Int) < (p : Int) := by omega
            have hpi : (p : Int) < (i : Int) := by omega
            obtain ⟨u, g, hug⟩ := htb.out
            obtain ⟨hgp, u2, g2, _, hug2, _⟩ := Dp.tbl_some hp hug
            have hpp := hpath.out
            rw [Dp.path_pos hp hug, List.map_append, List.append_assoc] at hpp
            obtain ⟨b, off, hS, hb, hc⟩ := HR.out.at1 (by omega)
            have c0 : wr.cell? ⟨b, off + p, none⟩ = _ := (hBl.cell (p := ⟨b, off + p, none⟩) hb).trans (hc p (by omega))
            subst hS
            obtain ⟨x, hx⟩ : ∃ x, ss.getD p default = x := ⟨_, rfl⟩
            simp only [List.map_cons, List.map_nil, hx] at hpp
            simp only [inc, hx] at c0
            have k1 := hst.cell (i := p) (q := 1) (by omega) (by omega)
            rw [stt_lt (by omega), hug] at k1
            simp only [enc, Option.getD_some] at k1
            have hO := hownl.out.alloc (.cells #[.int .i64 x] 3)
            have HO := Lib.hid hO
            have HB := Lib.hid (Blk.new wr 3 #[.int .i64 x])
            have HS := Lib.hid (show wo.heap.size ≤ (wr.alloc (.cells #[.int .i64 x] 3)).heap.size by simp; omega)
            have hgl2 := hst.lt
            have K4 : ∀ w4, (wr.alloc (.cells #[.int .i64 x] 3)).grownBy w4 (Value.ownBlock (.slice A q d)) → w4.cell? ⟨w.heap.size, p * 3 + 1, none⟩ = some (.int .i64 (g : Int)) ∧ Below w.heap.size w w4 ∧ Below wo.heap.size wo w4 := fun w4 hg => by
              have hblk := hownl.out.block
              refine ⟨hg.cell ((World.cell?_alloc_lt wr _ ⟨w.heap.size, p * 3 + 1, none⟩ hgl2).trans k1) (fun e => by have := (hblk _ e.symm).1; simp only at this; omega), ?_, ?_⟩
              · exact (hBl.alloc (by omega) _).grown hg (by simp; omega) (fun k hk => by have := (hblk k hk).1; omega)
              · exact (hbl.alloc (by omega) _).grown hg (by simp; omega) (fun k hk => (hblk k hk).1)
            have HK4 := Lib.hid K4
            have HP := Lib.hid hpp
            have HG := Lib.hid hug2
            clear hx hc k1 K4 hpp hug hug2 hst htb
            go_wp2_with (at_builtin; (refine wpList_append_one _ rfl _ _ 24 rfl wo.heap.size 3 j0 _ 1 8 Try.underlying24 ji jz0 jz1 jz2 rfl (by omega) A q d (inl L) rfl HO.out wr.heap.size (inl [x]) rfl rfl HB.out (inl_one _) (by omega) (by omega) HS.out ?_); intro g' d' w4 hown4 hgr4; have HO4 := Lib.hid hown4; obtain ⟨k4, hb4, hbp4⟩ := HK4.out w4 hgr4; clear hown4 hgr4)
            go_roundg g
            case measure => have := HK.out; omega
            case rel =>
              refine ⟨g, q + 1, d', some ⟨g', 0, none⟩, L ++ [x], rfl, by omega, rfl, by go_num, by omega, ⟨u2, g2, HG.out⟩, ?_, ?_, hbp4⟩
              · show _ = _
                rw [List.reverse_append]; exact HP.out
              · show World.ownsRow _ _ _ _ _ _ _
                rw [inl_snoc]; exact HO4.out
          · obtain rfl : p = 0 := by omega
            have hfin : L.reverse = X := by have := hpath.out; rwa [Dp.path_zero, List.map_nil, List.nil_append] at this
            have hlen := hownl.out.len
            have z4 := hst.cell (i := n) (q := 0) hn' (by omega)
            rw [stt_lt hn', HT.out] at z4
            simp only [enc, Option.getD_some, Nat.add_zero] at z4
            have HF := Lib.hid hfin
            have HLEN := Lib.hid hlen
            have hni' : (n : Int) < (i : Int) := by omega
            clear hfin hst htb hlen
            go_wp2_with fail
            ((with_reducible refine (reverse_any _ _ _ wo.heap.size L _ (by omega) hownl.out).mono ?_); rintro e w6 ⟨rfl, hown6, hg6⟩)
            have z6 : w6.cell? ⟨w.heap.size, n * 3, none⟩ = some (.int .i64 v) := hg6.cell z4 (fun e => by have := (hownl.out.block _ e.symm).1; simp only at this; omega)
            have hb6 : Below w.heap.size w w6 := hBl.grown hg6 (by omega) (fun k hk => by have := (hownl.out.block k hk).1; omega)
            have HO6 := Lib.hid hown6
            clear hown6 z4
            go_wp2_with fail
            go_quiet (fail)
            go_wp2_with fail
            (first | go_returns | (refine bodyPost_ret (by simp [results, Try.results55, go_sem, *]; try rfl) rfl ?_))
            have hq : X.length = q := by rw [← HF.out, List.length_reverse, HLEN.out]
            refine ⟨A, d, by rw [HE.out, HX.out]; show _ = Ending.returned (.tuple #[.slice A X.length d, .int .i64 v, .bool true]); rw [hq]; rfl, ?_, by (repeat' (first | (with_reducible exact Below.refl _ _) | (with_reducible assumption) | (with_reducible refine Below.alloc ?_ ?_ _) | (with_reducible refine Below.drew ?_) | (with_reducible refine below_drewN ?_ _) | (with_reducible refine Below.setCell ?_ ?_ _) | (with_reducible refine below_then ?_ ?_ (by with_reducible assumption)) | (with_reducible exact Nat.le_refl _) | go_size | (simp only [*]; done)))⟩
            rw [HE.out, HX.out]
            show OwnI _ w.heap.size A X.length d X
            rw [hq, ← HF.out]
            exact OwnI.mono (HO6.out.drewN _) hsz
theorem bestPath_any (K : Nat) (caps : Array Value) (S : Option Addr) (N n cap : Nat) (ss : List Int) (c : Nat → Nat → Option Int) (M : Int) (w : World) (eg : ∀ args w, (callFunc K args).run Try.prog w = .ok (.enter K args) w)
    (hn : ss.length = N) (hN : N = n + 1) (hn60 : n ≤ 100) (hr : Row w w.heap.size 1 S N (inc ss)) (hM : 0 ≤ M) (hM' : M ≤ 1000000000000000)
    (hrng : ∀ i v k, i ≤ n → Dp.tbl c i = some (v, k) → -M ≤ v ∧ v ≤ M) (hstep : ∀ k i s, k < i → i ≤ n → c k i = some s → -M ≤ s ∧ s ≤ M)
    (hcall : ∀ k i W, k < i → i ≤ n → Below w.heap.size w W → Calls Try.prog K (#[.int .i64 (ss.getD k default), .int .i64 (ss.getD i default)] ++ caps) W fun e W' => e = .returned (.tuple #[.int .i64 ((c k i).getD 0), .bool (c k i).isSome]) ∧ Below W.heap.size W W') :
    Calls Try.prog 55 #[.slice S N cap, .func (.func K) #[] caps] w (PathOut w (pathV c ss n)) :=
  bestPath_gen K caps S N n cap ss c M w eg hn hN hn60 hr hM hM' hrng hstep fun k i W h1 h2 h3 => (hcall k i W h1 h2 h3).mono fun e W' ⟨he, hb⟩ => ⟨_, he, fun s hs => by rw [hs]; rfl, hb⟩
end Go.Proofs.Ytkmipgekmbngcaa
