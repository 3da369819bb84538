/- The generators of tables: randomTable, anyTable: they return some table, in memory of their own. Conditions: the reader has yielded fewer than 2^47 numbers; one to five columns. -/
import Derived.Test.YtbkhimdebpllcaaTabOwn
namespace Go.Proofs.Ytbkhimdebpllcaa
open Go.RowKit

theorem pick_z (rb p : Nat) (m : Int) (hi : Int) (w : World) (h : Rd w rb p) (hp : p ≤ 1125899906842624) (h1 : 1 ≤ m) (h2 : m ≤ hi) :
    Calls Try.prog 48 #[.pointer (some ⟨rb, 0, none⟩), .int .i64 m] w fun e w' => ∃ x : Nat, e = .returned (.int .i64 (x : Int)) ∧ (x : Int) < hi ∧ Rd w' rb (p + 1) ∧ w.grownBy w' (some rb) := by
  refine (pick_any rb p m w h hp).mono ?_
  rintro e w' ⟨x, rfl, hx0, hx1, hr, ho⟩
  obtain ⟨k, rfl⟩ := Int.eq_ofNat_of_zero_le hx0
  exact ⟨k, rfl, by have := hx1 h1; omega, hr, ho⟩

/-- What a call leaves that draws a valid table. -/
def RandTab (w : World) (rb p K : Nat) (e : Ending) (w' : World) : Prop :=
  ∃ (g n c : Nat) (rs : List (List Cl)) (G : Nat → Option Addr) (cp : Nat → Nat) (p' : Nat), e = .returned (.slice (some ⟨g, 0, none⟩) n c) ∧ n ≤ 4 ∧ TabOwn w' w.heap.size (some ⟨g, 0, none⟩) n c rs G cp ∧ (∀ i, i < n → 0 < (rl rs i).length) ∧ p' ≤ p + K ∧ Rd w' rb p' ∧ w.grownBy w' (some rb)

set_option maxRecDepth 100000 in
set_option maxHeartbeats 4000000 in
theorem randomTable_any (rb p m : Nat) (w : World) (h : Rd w rb p) (hp : p ≤ 140737488355328) (hm1 : 1 ≤ m) (hm5 : m ≤ 5) : Calls Try.prog 55 #[.pointer (some ⟨rb, 0, none⟩), .int .i64 (m : Int)] w (fun e w' => RandTab w rb p 80 e w') := by
  obtain ⟨j0, ji, jz0, jz1, jz2⟩ := info_parts cell_info
  obtain ⟨i0, ii, iz0, iz1, iz2⟩ := info_parts cellS_info
  have hlt := h.lt
  go_enter Try.func55, Try.ntmps55
  go_wp2_with fail
  ((with_reducible refine (pick_z rb _ _ 5 _ (h.alloc _) (by omega) (by omega) (by omega)).mono ?_); rintro e w1 ⟨m0, rfl, hm0, hr1, ho1⟩)
  have hown1 := Lib.hid (TabOwn.nil (base := w.heap.size) w.heap.size ((Blk.new w 43 #[]).grown ho1 (by simp; omega)) (Nat.le_refl _))
  have hO1 : w.grownBy w1 (some rb) := by (repeat' (first | (with_reducible exact only_refl _ _) | (with_reducible assumption) | (with_reducible refine only_alloc ?_ _) | (with_reducible refine only_drew ?_) | (with_reducible refine only_drewN ?_ _) | (with_reducible refine only_setCell ?_ ?_ _) | (with_reducible refine only_trans ?_ (by with_reducible assumption)) | (with_reducible exact Or.inl rfl) | (refine Or.inr ?_; first | (simp; done) | omega | (simp; omega)) | omega))
  clear ho1
  go_wp2_with fail
  go_loopg [5, 6] m0 (fun k o cnt wr => ∃ (z q g c p' : Nat) (rs : List (List Cl)) (G : Nat → Option Addr) (cp : Nat → Nat), o = .slice (some ⟨g, 0, none⟩) q c ∧ cnt = .int .i64 (z : Int) ∧ k = z ∧ z + q ≤ 4 ∧ Hid (TabOwn wr w.heap.size (some ⟨g, 0, none⟩) q c rs G cp) ∧ Hid (∀ i, i < q → 0 < (rl rs i).length) ∧ p' + 15 * z ≤ p + 70 ∧ Rd wr rb p' ∧ w.grownBy wr (some rb))
  case atStart => exact ⟨m0, 0, w.heap.size, 0, p + 1, [], _, _, rfl, by go_num, rfl, by omega, hown1.out, fun i hi => absurd hi (by omega), by omega, hr1, hO1⟩
  case round =>
    obtain ⟨z, q, g, c, p', rs, G, cp, rfl, rfl, hkz, hkq, hown, hpos, hp', hrd, hO⟩ := hrel
    obtain ⟨wo, hwo⟩ : ∃ wo : World, wo = wr := ⟨_, rfl⟩
    subst hwo
    have HKZ := Lib.hid hkz; clear hkz
    have hs0 := hO.size
    by_cases hk : 0 < z
    · have hE := Lib.hid (owns_nil (wo.alloc (.cells #[] 46)) wo.heap.size 46 2 0 _ _ (Blk.new wo 46 #[]) (Nat.le_refl _) (by unfold maxLen; omega) rfl)
      have hOi : wo.grownBy (wo.alloc (.cells #[] 46)) (some rb) := only_alloc (only_refl _ _) _
      go_wp2_with fail
      go_loopg [7, 8] m (fun kk lv av wi => ∃ (a q2 g2 c2 p2 : Nat) (r : List Cl), lv = .slice (some ⟨g2, 0, none⟩) q2 c2 ∧ av = .int .i64 (a : Int) ∧ a ≤ m ∧ kk = m - a ∧ q2 ≤ a ∧ (0 < a → 0 < q2) ∧ Hid (OwnC wi wo.heap.size (some ⟨g2, 0, none⟩) q2 c2 r) ∧ p2 ≤ p' + 2 * a ∧ Rd wi rb p2 ∧ wo.grownBy wi (some rb))
      case atStart => exact ⟨0, 0, wo.heap.size, 0, p', [], rfl, rfl, by omega, rfl, by omega, by omega, hE.out, by omega, hrd.alloc _, hOi⟩
      case round =>
        obtain ⟨a, q2, g2, c2, p2, r, rfl, rfl, ham, hka, hqa, hq0, hownc, hp2, hrd2, hO2⟩ := hrel
        have HKA := Lib.hid hka; clear hka
        have hs2 := hO2.size
        have hgb := hownc.out.p.blk ⟨g2, 0, none⟩ rfl
        by_cases hlt2 : a < m
        · have hltI : (a : Int) < (m : Int) := by omega
          by_cases hmin : (3 : Int) ≤ (m : Int) - (a : Int)
          all_goals
            go_wp2_with fail
            ((with_reducible refine (pick_z rb _ _ ((m : Int) - (a : Int)) _ hrd2 (by omega) (by omega) (by omega)).mono ?_); rintro e w3 ⟨x, rfl, hx, hr3, ho3⟩)
            have o3 := World.ownsRow.kept hownc.out ho3 (.inr (by simp [Value.ownBlock]; omega))
            have O3 := only_trans hO2 ho3
            have hs3 := O3.size
            clear ho3
            go_wp2_with fail
            ((with_reducible refine (pick_z rb _ _ 30 _ hr3 (by omega) (by omega) (by omega)).mono ?_); rintro e w4 ⟨y, rfl, hy, hr4, ho4⟩)
            have o4 := World.ownsRow.kept o3 ho4 (.inr (by simp [Value.ownBlock]; omega))
            have O4 := only_trans O3 ho4
            have hs4 := O4.size
            clear ho4 o3
            have HO := Lib.hid (World.ownsRow.alloc o4 (.cells #[.int .i64 (1 + (x : Int)), .int .i64 (y : Int)] 46))
            have HB := Lib.hid (Blk.new w4 46 #[.int .i64 (1 + (x : Int)), .int .i64 (y : Int)])
            have HBASE := Lib.hid (show wo.heap.size ≤ (w4.alloc (.cells #[.int .i64 (1 + (x : Int)), .int .i64 (y : Int)] 46)).heap.size by simp; omega)
            have O5 := Lib.hid (only_alloc O4 (.cells #[.int .i64 (1 + (x : Int)), .int .i64 (y : Int)] 46))
            have R5 := Lib.hid (hr4.alloc (.cells #[.int .i64 (1 + (x : Int)), .int .i64 (y : Int)] 46))
            clear o4
            go_wp2_with (at_builtin; (refine wpList_append_one _ rfl _ _ 43 rfl wo.heap.size 46 j0 _ 2 16 Try.underlying43 ji jz0 jz1 jz2 rfl (by omega) (some ⟨g2, 0, none⟩) q2 c2 (r.flatMap cll) rfl HO.out w4.heap.size (cll (⟨1 + (x : Int), (y : Int)⟩ : Cl)) rfl rfl HB.out (cll_one _) (by omega) (by omega) HBASE.out ?_); intro g6 c6 w6 hown6 hgr6; (have HO6 := Lib.hid hown6); (have HG6 := Lib.hid hgr6); clear hown6 hgr6)
            go_roundg (m - (a + 1 + x))
            case measure => have := HKA.out; omega
            case rel =>
              have hgb' := (HO.out.lt g2 rfl).1
              exact ⟨a + 1 + x, q2 + 1, g6, c6, p2 + 1 + 1, r ++ [⟨1 + (x : Int), (y : Int)⟩], rfl, by go_num, by omega, rfl, by omega, by omega, OwnC.snoc HO6.out, by omega, R5.out.own HG6.out (by intro x hx; cases hx; simp; omega), only_own O5.out HG6.out (by intro x hx; cases hx; simp; omega)⟩
        · have hq2 : 0 < q2 := hq0 (by omega)
          have hlen := hownc.out.len
          have HT := Lib.hid ((hown.out.only hO2 hlt).alloc (.cells #[.slice (some ⟨g2, 0, none⟩) q2 c2] 43))
          have HL := Lib.hid HT.out.list
          have HC := Lib.hid ((hownc.out.p.alloc (.cells #[.slice (some ⟨g2, 0, none⟩) q2 c2] 43)).mono hs0)
          have HB := Lib.hid (Blk.new wr 43 #[.slice (some ⟨g2, 0, none⟩) q2 c2])
          have HBASE := Lib.hid (show w.heap.size ≤ (wr.alloc (.cells #[.slice (some ⟨g2, 0, none⟩) q2 c2] 43)).heap.size by simp; omega)
          have O5 := Lib.hid (only_alloc (only_trans hO hO2) (.cells #[.slice (some ⟨g2, 0, none⟩) q2 c2] 43))
          have R5 := Lib.hid (hrd2.alloc (.cells #[.slice (some ⟨g2, 0, none⟩) q2 c2] 43))
          have HAHI := Lib.hid hown.out.blkA
          have HGHI := Lib.hid hown.out.blkG
          have HLEN := Lib.hid hlen
          clear hlen
          go_wp2_with (at_builtin; (refine wpList_append_one_at _ rfl _ _ 31 rfl w.heap.size 43 i0 _ 1 24 Try.underlying31 ii iz0 iz1 iz2 rfl (by omega) (some ⟨g, 0, none⟩) q c (outs rs q G cp) rfl HL.out wr.heap.size [.slice (some ⟨g2, 0, none⟩) q2 c2] rfl rfl HB.out (by simp [Value.oneCell']) (by omega) (by omega) HBASE.out ?_); intro g6 c6 w6 hown6 hgr6 hat6; (have HO6 := Lib.hid hown6); (have HG6 := Lib.hid hgr6); (have HA6 := Lib.hid hat6); clear hown6 hgr6 hat6)
          go_roundg (z - 1)
          case measure => have := HKZ.out; omega
          case rel =>
            have hgg := (HL.out.lt g rfl).1
            refine ⟨z - 1, q + 1, g6, c6, _, rs ++ [r], _, _, rfl, by go_num, rfl, by omega, TabOwn.snoc HT.out HLEN.out HC.out ?_ ?_ HO6.out HG6.out HA6.out, ?_, ?_, R5.out.own HG6.out (by intro x hx; cases hx; simp; omega), only_own O5.out HG6.out (by intro x hx; cases hx; simp; omega)⟩
            · intro x hx y hy e
              cases hx
              have h2 := HAHI.out y hy
              simp at e
              omega
            · intro i hi x hx y hy e
              cases hy
              have h2 := HGHI.out i hi x hx
              simp at e
              omega
            · intro i hi
              by_cases e : i = q
              · subst e
                rw [rl_new HT.out.1, HLEN.out]
                exact hq2
              · rw [rl_old HT.out.1 (by omega)]
                exact hpos.out i (by omega)
            · omega
    · go_wp2_with fail
      go_ret
      exact ⟨g, q, c, rs, G, cp, p', rfl, by omega, hown.out, hpos.out, by omega, hrd, hO⟩
end Go.Proofs.Ytbkhimdebpllcaa
