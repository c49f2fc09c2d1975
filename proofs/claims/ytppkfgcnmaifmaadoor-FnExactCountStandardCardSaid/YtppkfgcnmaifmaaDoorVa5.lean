/- What the proof of the law leans on, part 5 of 6: contracts of the functions that it reaches, the words they are told in (laid by the kit's print.sh, here only as far as they are used), and what they come to. -/
import Derived.Test.YtppkfgcnmaifmaaDoorVa4
namespace Go.Proofs.YtppkfgcnmaifmaaDoor.Hb
open Go.RowKit Go.Proofs.YtppkfgcnmaifmaaDoorW.PrintWords Go.Proofs.YtppkfgcnmaifmaaDoorW.PrintLast Go.Proofs.YtppkfgcnmaifmaaDoorW.PrintMore
attribute [local go_sem] max2_int min2_int max_two min_two max_three min_three max_four min_four   -- for this text's walks alone
set_option linter.unusedVariables false
set_option linter.unusedSimpArgs false
def impl_sum.l0 : Nat → Int → List Int → Int → Int → Option (Int)
  | 0, _, _, _, _ => none
  | k + 1, x3, x6, x7, x8 => if x8 < x7 then (if 0 ≤ x8 then (if x8 < (x6.length : Int) then (impl_sum.l0 k (wrap64 (x3 + (rd x6 x8))) x6 x7 (wrap64 (x8 + 1))) else (none)) else (none)) else (some x3)
def impl_sum.f (k : Nat) (l0 : List Int) : Option (Int) := impl_sum.l0 k 0 l0 (l0.length : Int) 0
set_option maxHeartbeats 8000000 in
set_option maxRecDepth 100000 in
theorem impl_sum.calls (k : Nat) (A0 : Option Addr) (c0 : Nat) (l0 : List Int) (r : Int) (w : World) (hr0 : Kd.C (Kd.int .i64) w A0 l0.length l0) (hc0 : l0.length ≤ c0) (h : impl_sum.f k l0 = some r) :
    Calls Tryd.prog 32 #[.slice A0 l0.length c0] w fun e w' => e = .returned (.int .i64 r) ∧ Drawn0 w w' := by
  have HR0 := Aside0.mk hr0
  have HC0 := Aside0.mk hc0
  clear hr0 hc0
  have H : (impl_sum.l0 k 0 l0 (l0.length : Int) 0) = some r := h
  clear h
  have H' := Aside0.mk H
  clear H
  go_enter Tryd.func32, Tryd.ntmps32
  go_wp2
  go_loopg [3, 8] k (fun kq v3 v8 w' => ∃ (x3_1 : Int) (x8_1 : Int), v3 = .int .i64 x3_1 ∧ v8 = .int .i64 x8_1 ∧ Aside0 (impl_sum.l0 kq x3_1 l0 (l0.length : Int) x8_1 = some r) ∧ Aside0 (kq ≤ k) ∧ Drawn0 w w')
  case atStart => exact ⟨(0), (0), (by first | rfl | (simp; done) | (simp [*]; done)), (by first | rfl | (simp; done) | (simp [*]; done)), H', ⟨Nat.le_refl _⟩, by repeat (first | exact Drawn0.refl _ | apply Drawn0.step)⟩
  case round =>
    clear H'
    obtain ⟨x3_1, x8_1, rfl, rfl, HA, HK1, ⟨m1, rfl⟩⟩ := hrel
    cases gk with
    | zero => exact absurd HA.out (by simp [impl_sum.l0])
    | succ k1 =>
      have H := HA.out
      clear HA
      simp only [impl_sum.l0] at H
      by_cases c2 : x8_1 < (l0.length : Int)
      · rw [if_pos c2] at H
        have c2b0 : decide (x8_1 < (l0.length : Int)) = true := decide_eq_true c2
        clear c2
        by_cases c3 : 0 ≤ x8_1
        · rw [if_pos c3] at H
          have c3b0 : decide (0 ≤ x8_1) = true := decide_eq_true c3
          clear c3
          by_cases c4 : x8_1 < (l0.length : Int)
          · rw [if_pos c4] at H
            have c4b0 : decide (x8_1 < (l0.length : Int)) = true := decide_eq_true c4
            clear c4
            have H' := Aside0.mk H
            clear H
            have p270 : 0 ≤ (x8_1 : Int) := of_decide_eq_true (by first | (with_reducible assumption) | assumption)
            have q270 : x8_1 < (l0.length : Int) := of_decide_eq_true (by first | (with_reducible assumption) | assumption)
            obtain ⟨ad270, e270, hx270_0⟩ := Kd.at_int HR0.out x8_1 p270 q270
            cases e270
            replace p270 := eq_true p270
            replace q270 := eq_true q270
            go_wp2
            go_roundg k1
            case measure => have := HK1.out; omega
            case rel => exact ⟨(wrap64 (x3_1 + (rd l0 x8_1))), (wrap64 (x8_1 + 1)), (by first | rfl | (simp; done) | (simp [*]; done)), (by first | rfl | (simp; done) | (simp [*]; done)), H', ⟨by have := HK1.out; omega⟩, by repeat (first | exact Drawn0.refl _ | apply Drawn0.step)⟩
          · rw [if_neg c4] at H
            exact absurd H (by simp)
        · rw [if_neg c3] at H
          exact absurd H (by simp)
      · rw [if_neg c2] at H
        have c2b0 : decide (x8_1 < (l0.length : Int)) = false := decide_eq_false c2
        clear c2
        obtain rfl := Option.some.inj H
        go_wp2
        go_ret
        exact ⟨by first | rfl | (simp; done) | (simp [*]; done), by repeat (first | exact Drawn0.refl _ | apply Drawn0.step)⟩
def impl_CellCount.f (k : Nat) (l0_0 : List Int) (l0_1 : List Int) : Option (Int) := (impl_IsShape.f k l0_0 l0_1).bind fun t272 => (if t272 = true then ((impl_sum.f k l0_0).bind fun t273 => ((impl_sum.f k l0_1).bind fun t274 => (some (wrap64 (t273 - t274))))) else (some (-1)))
set_option maxHeartbeats 8000000 in
set_option maxRecDepth 100000 in
theorem impl_CellCount.calls (k : Nat) (A0_0 : Option Addr) (c0_0 : Nat) (l0_0 : List Int) (A0_1 : Option Addr) (c0_1 : Nat) (l0_1 : List Int) (r : Int) (w : World) (hr0_0 : Kd.C (Kd.int .i64) w A0_0 l0_0.length l0_0) (hc0_0 : l0_0.length ≤ c0_0) (hr0_1 : Kd.C (Kd.int .i64) w A0_1 l0_1.length l0_1) (hc0_1 : l0_1.length ≤ c0_1) (h : impl_CellCount.f k l0_0 l0_1 = some r) :
    Calls Tryd.prog 101 #[.agg #[.slice A0_0 l0_0.length c0_0, .slice A0_1 l0_1.length c0_1]] w fun e w' => e = .returned (.int .i64 r) ∧ Below w.heap.size w w' := by
  have hu38 := Tryd.underlying38
  have HR0_0 := Aside0.mk hr0_0
  have HC0_0 := Aside0.mk hc0_0
  clear hr0_0 hc0_0
  have HR0_1 := Aside0.mk hr0_1
  have HC0_1 := Aside0.mk hc0_1
  clear hr0_1 hc0_1
  have HB := Aside0.mk (Below.refl w.heap.size w)
  have H : ((impl_IsShape.f k l0_0 l0_1).bind fun t272 => (if t272 = true then ((impl_sum.f k l0_0).bind fun t273 => ((impl_sum.f k l0_1).bind fun t274 => (some (wrap64 (t273 - t274))))) else (some (-1)))) = some r := h
  clear h
  replace H := Option.bind_eq_some_iff.mp H
  obtain ⟨t272, A20, H⟩ := H
  replace H : (if t272 = true then ((impl_sum.f k l0_0).bind fun t273 => ((impl_sum.f k l0_1).bind fun t274 => (some (wrap64 (t273 - t274))))) else (some (-1))) = some r := H
  have A2 := Aside0.mk A20
  clear A20
  by_cases c3 : t272 = true
  · subst c3
    have H1 : ((impl_sum.f k l0_0).bind fun t273 => ((impl_sum.f k l0_1).bind fun t274 => (some (wrap64 (t273 - t274))))) = some r := by rw [if_pos rfl] at H; exact H
    clear H
    have H := H1
    clear H1
    replace H := Option.bind_eq_some_iff.mp H
    obtain ⟨t273, A40, H⟩ := H
    replace H : ((impl_sum.f k l0_1).bind fun t274 => (some (wrap64 (t273 - t274)))) = some r := H
    have A4 := Aside0.mk A40
    clear A40
    replace H := Option.bind_eq_some_iff.mp H
    obtain ⟨t274, A50, H⟩ := H
    replace H : (some (wrap64 (t273 - t274))) = some r := H
    have A5 := Aside0.mk A50
    clear A50
    obtain rfl := Option.some.inj H
    go_enter Tryd.func101, Tryd.ntmps101
    go_wp2_with (first | ((with_reducible refine gate_dst (N := 1) rfl ?_); refine box_event ?hg (N := 1) ?hd (cs := #[.slice A0_0 l0_0.length c0_0, .slice A0_1 l0_1.length c0_1]) (t := 38) ?hr ?_; (case hd => rfl); (case hg => rfl); (case hr => first | (go_simp; done) | (go_simp; rfl)); intro gb271 hg w6 hbox hb; have n0_ := Aside0.mk (below_step (by repeat (first | (with_reducible first | exact HB.out | apply below_alloc | apply pw_below_drewN | apply below_drew1) | exact HB.out)) hb); have n1_ := Aside0.mk (hbox); have n2_ := Aside0.mk ((by rw [hg]; exact (below_size (by repeat (first | (with_reducible first | exact HB.out | apply below_alloc | apply pw_below_drewN | apply below_drew1) | exact HB.out))) : w.heap.size ≤ gb271)); have n3_ := Aside0.mk ((by rw [hg]; exact (below_size (by repeat (first | (with_reducible first | exact HB.out | apply below_alloc | apply pw_below_drewN | apply below_drew1) | exact HB.out))) : w.heap.size ≤ gb271)); clear HB; have HB := n0_; have BK271 := n1_; have GW271 := n2_; have GE271 := n3_; clear n0_ n1_ n2_ n3_; clear hb hbox hg; have hcz7_0 : w6.cell? ⟨gb271, 0, none⟩ = some (.slice A0_0 l0_0.length c0_0) := (blk_cell BK271.out 0).trans rfl; have hcz7_1 : w6.cell? ⟨gb271, 1, none⟩ = some (.slice A0_1 l0_1.length c0_1) := (blk_cell BK271.out 1).trans rfl; have hfz7_0 := blk_frozen BK271.out 0; have hfz7_1 := blk_frozen BK271.out 1) | (go_at_call 98; (with_reducible refine (impl_IsShape.calls k _ _ l0_0 _ _ l0_1 true _ ?side1 ?side2 ?side3 ?side4 A2.out).mono ?_); (case side1 => repeat (first | exact (Kd.C_below HR0_0.out HB.out) | (with_reducible refine Kd.C_alloc ?_ _) | (with_reducible refine Kd.C_drewN ?_ _) | (with_reducible refine Kd.C_drew ?_))); (case side2 => exact HC0_0.out); (case side3 => repeat (first | exact (Kd.C_below HR0_1.out HB.out) | (with_reducible refine Kd.C_alloc ?_ _) | (with_reducible refine Kd.C_drewN ?_ _) | (with_reducible refine Kd.C_drew ?_))); (case side4 => exact HC0_1.out); rintro e w8 ⟨rfl, hb⟩; have n0_ := Aside0.mk (blk_below (g := gb271) (o := .cells #[.slice A0_0 l0_0.length c0_0, .slice A0_1 l0_1.length c0_1] 38 (0, 0)) (by (with_reducible repeat (first | refine blk_drewN ?_ _ | refine blk_drew ?_ | refine blk_alloc ?_ _)); exact BK271.out) hb); have n1_ := Aside0.mk (below_step (by repeat (first | (with_reducible first | exact HB.out | apply below_alloc | apply pw_below_drewN | apply below_drew1 | refine below_set ?_ GE271.out) | exact HB.out)) hb); clear BK271; clear HB; have BK271 := n0_; have HB := n1_; clear n0_ n1_; (try clear hb); (try clear hb2); (try clear hk); (try clear hi); have hcz9_0 : w8.cell? ⟨gb271, 0, none⟩ = some (.slice A0_0 l0_0.length c0_0) := (blk_cell BK271.out 0).trans rfl; have hcz9_1 : w8.cell? ⟨gb271, 1, none⟩ = some (.slice A0_1 l0_1.length c0_1) := (blk_cell BK271.out 1).trans rfl; have hfz9_0 := blk_frozen BK271.out 0; have hfz9_1 := blk_frozen BK271.out 1) | (go_at_call 32; (with_reducible refine (impl_sum.calls k _ _ l0_0 t273 _ ?side1 ?side2 A4.out).mono ?_); (case side1 => repeat (first | exact (Kd.C_below HR0_0.out HB.out) | (with_reducible refine Kd.C_alloc ?_ _) | (with_reducible refine Kd.C_drewN ?_ _) | (with_reducible refine Kd.C_drew ?_))); (case side2 => exact HC0_0.out); rintro e w' ⟨rfl, ⟨nd, rfl⟩⟩; (try first | exact ⟨rfl, _, World.drewN_drewN _ _ _⟩ | exact ⟨rfl, _, Eq.trans (World.drewN_drewN _ _ _) (congrArg (World.drewN _) (Nat.add_assoc _ _ _))⟩)) | (go_at_call 32; (with_reducible refine (impl_sum.calls k _ _ l0_1 t274 _ ?side1 ?side2 A5.out).mono ?_); (case side1 => repeat (first | exact (Kd.C_below HR0_1.out (by repeat (first | (with_reducible first | exact HB.out | apply below_alloc | apply pw_below_drewN | apply below_drew1 | refine below_set ?_ GE271.out) | exact HB.out))) | (with_reducible refine Kd.C_alloc ?_ _) | (with_reducible refine Kd.C_drewN ?_ _) | (with_reducible refine Kd.C_drew ?_))); (case side2 => exact HC0_1.out); rintro e w' ⟨rfl, ⟨nd, rfl⟩⟩; (try first | exact ⟨rfl, _, World.drewN_drewN _ _ _⟩ | exact ⟨rfl, _, Eq.trans (World.drewN_drewN _ _ _) (congrArg (World.drewN _) (Nat.add_assoc _ _ _))⟩)))
    repeat (go_quiet (first | ((with_reducible refine gate_dst (N := 1) rfl ?_); refine box_event ?hg (N := 1) ?hd (cs := #[.slice A0_0 l0_0.length c0_0, .slice A0_1 l0_1.length c0_1]) (t := 38) ?hr ?_; (case hd => rfl); (case hg => rfl); (case hr => first | (go_simp; done) | (go_simp; rfl)); intro gb271 hg w6 hbox hb; have n0_ := Aside0.mk (below_step (by repeat (first | (with_reducible first | exact HB.out | apply below_alloc | apply pw_below_drewN | apply below_drew1) | exact HB.out)) hb); have n1_ := Aside0.mk (hbox); have n2_ := Aside0.mk ((by rw [hg]; exact (below_size (by repeat (first | (with_reducible first | exact HB.out | apply below_alloc | apply pw_below_drewN | apply below_drew1) | exact HB.out))) : w.heap.size ≤ gb271)); have n3_ := Aside0.mk ((by rw [hg]; exact (below_size (by repeat (first | (with_reducible first | exact HB.out | apply below_alloc | apply pw_below_drewN | apply below_drew1) | exact HB.out))) : w.heap.size ≤ gb271)); clear HB; have HB := n0_; have BK271 := n1_; have GW271 := n2_; have GE271 := n3_; clear n0_ n1_ n2_ n3_; clear hb hbox hg; have hcz7_0 : w6.cell? ⟨gb271, 0, none⟩ = some (.slice A0_0 l0_0.length c0_0) := (blk_cell BK271.out 0).trans rfl; have hcz7_1 : w6.cell? ⟨gb271, 1, none⟩ = some (.slice A0_1 l0_1.length c0_1) := (blk_cell BK271.out 1).trans rfl; have hfz7_0 := blk_frozen BK271.out 0; have hfz7_1 := blk_frozen BK271.out 1) | (go_at_call 98; (with_reducible refine (impl_IsShape.calls k _ _ l0_0 _ _ l0_1 true _ ?side1 ?side2 ?side3 ?side4 A2.out).mono ?_); (case side1 => repeat (first | exact (Kd.C_below HR0_0.out HB.out) | (with_reducible refine Kd.C_alloc ?_ _) | (with_reducible refine Kd.C_drewN ?_ _) | (with_reducible refine Kd.C_drew ?_))); (case side2 => exact HC0_0.out); (case side3 => repeat (first | exact (Kd.C_below HR0_1.out HB.out) | (with_reducible refine Kd.C_alloc ?_ _) | (with_reducible refine Kd.C_drewN ?_ _) | (with_reducible refine Kd.C_drew ?_))); (case side4 => exact HC0_1.out); rintro e w8 ⟨rfl, hb⟩; have n0_ := Aside0.mk (blk_below (g := gb271) (o := .cells #[.slice A0_0 l0_0.length c0_0, .slice A0_1 l0_1.length c0_1] 38 (0, 0)) (by (with_reducible repeat (first | refine blk_drewN ?_ _ | refine blk_drew ?_ | refine blk_alloc ?_ _)); exact BK271.out) hb); have n1_ := Aside0.mk (below_step (by repeat (first | (with_reducible first | exact HB.out | apply below_alloc | apply pw_below_drewN | apply below_drew1 | refine below_set ?_ GE271.out) | exact HB.out)) hb); clear BK271; clear HB; have BK271 := n0_; have HB := n1_; clear n0_ n1_; (try clear hb); (try clear hb2); (try clear hk); (try clear hi); have hcz9_0 : w8.cell? ⟨gb271, 0, none⟩ = some (.slice A0_0 l0_0.length c0_0) := (blk_cell BK271.out 0).trans rfl; have hcz9_1 : w8.cell? ⟨gb271, 1, none⟩ = some (.slice A0_1 l0_1.length c0_1) := (blk_cell BK271.out 1).trans rfl; have hfz9_0 := blk_frozen BK271.out 0; have hfz9_1 := blk_frozen BK271.out 1) | (go_at_call 32; (with_reducible refine (impl_sum.calls k _ _ l0_0 t273 _ ?side1 ?side2 A4.out).mono ?_); (case side1 => repeat (first | exact (Kd.C_below HR0_0.out HB.out) | (with_reducible refine Kd.C_alloc ?_ _) | (with_reducible refine Kd.C_drewN ?_ _) | (with_reducible refine Kd.C_drew ?_))); (case side2 => exact HC0_0.out); rintro e w' ⟨rfl, ⟨nd, rfl⟩⟩; (try first | exact ⟨rfl, _, World.drewN_drewN _ _ _⟩ | exact ⟨rfl, _, Eq.trans (World.drewN_drewN _ _ _) (congrArg (World.drewN _) (Nat.add_assoc _ _ _))⟩)) | (go_at_call 32; (with_reducible refine (impl_sum.calls k _ _ l0_1 t274 _ ?side1 ?side2 A5.out).mono ?_); (case side1 => repeat (first | exact (Kd.C_below HR0_1.out (by repeat (first | (with_reducible first | exact HB.out | apply below_alloc | apply pw_below_drewN | apply below_drew1 | refine below_set ?_ GE271.out) | exact HB.out))) | (with_reducible refine Kd.C_alloc ?_ _) | (with_reducible refine Kd.C_drewN ?_ _) | (with_reducible refine Kd.C_drew ?_))); (case side2 => exact HC0_1.out); rintro e w' ⟨rfl, ⟨nd, rfl⟩⟩; (try first | exact ⟨rfl, _, World.drewN_drewN _ _ _⟩ | exact ⟨rfl, _, Eq.trans (World.drewN_drewN _ _ _) (congrArg (World.drewN _) (Nat.add_assoc _ _ _))⟩))); try go_wp2_with (first | ((with_reducible refine gate_dst (N := 1) rfl ?_); refine box_event ?hg (N := 1) ?hd (cs := #[.slice A0_0 l0_0.length c0_0, .slice A0_1 l0_1.length c0_1]) (t := 38) ?hr ?_; (case hd => rfl); (case hg => rfl); (case hr => first | (go_simp; done) | (go_simp; rfl)); intro gb271 hg w6 hbox hb; have n0_ := Aside0.mk (below_step (by repeat (first | (with_reducible first | exact HB.out | apply below_alloc | apply pw_below_drewN | apply below_drew1) | exact HB.out)) hb); have n1_ := Aside0.mk (hbox); have n2_ := Aside0.mk ((by rw [hg]; exact (below_size (by repeat (first | (with_reducible first | exact HB.out | apply below_alloc | apply pw_below_drewN | apply below_drew1) | exact HB.out))) : w.heap.size ≤ gb271)); have n3_ := Aside0.mk ((by rw [hg]; exact (below_size (by repeat (first | (with_reducible first | exact HB.out | apply below_alloc | apply pw_below_drewN | apply below_drew1) | exact HB.out))) : w.heap.size ≤ gb271)); clear HB; have HB := n0_; have BK271 := n1_; have GW271 := n2_; have GE271 := n3_; clear n0_ n1_ n2_ n3_; clear hb hbox hg; have hcz7_0 : w6.cell? ⟨gb271, 0, none⟩ = some (.slice A0_0 l0_0.length c0_0) := (blk_cell BK271.out 0).trans rfl; have hcz7_1 : w6.cell? ⟨gb271, 1, none⟩ = some (.slice A0_1 l0_1.length c0_1) := (blk_cell BK271.out 1).trans rfl; have hfz7_0 := blk_frozen BK271.out 0; have hfz7_1 := blk_frozen BK271.out 1) | (go_at_call 98; (with_reducible refine (impl_IsShape.calls k _ _ l0_0 _ _ l0_1 true _ ?side1 ?side2 ?side3 ?side4 A2.out).mono ?_); (case side1 => repeat (first | exact (Kd.C_below HR0_0.out HB.out) | (with_reducible refine Kd.C_alloc ?_ _) | (with_reducible refine Kd.C_drewN ?_ _) | (with_reducible refine Kd.C_drew ?_))); (case side2 => exact HC0_0.out); (case side3 => repeat (first | exact (Kd.C_below HR0_1.out HB.out) | (with_reducible refine Kd.C_alloc ?_ _) | (with_reducible refine Kd.C_drewN ?_ _) | (with_reducible refine Kd.C_drew ?_))); (case side4 => exact HC0_1.out); rintro e w8 ⟨rfl, hb⟩; have n0_ := Aside0.mk (blk_below (g := gb271) (o := .cells #[.slice A0_0 l0_0.length c0_0, .slice A0_1 l0_1.length c0_1] 38 (0, 0)) (by (with_reducible repeat (first | refine blk_drewN ?_ _ | refine blk_drew ?_ | refine blk_alloc ?_ _)); exact BK271.out) hb); have n1_ := Aside0.mk (below_step (by repeat (first | (with_reducible first | exact HB.out | apply below_alloc | apply pw_below_drewN | apply below_drew1 | refine below_set ?_ GE271.out) | exact HB.out)) hb); clear BK271; clear HB; have BK271 := n0_; have HB := n1_; clear n0_ n1_; (try clear hb); (try clear hb2); (try clear hk); (try clear hi); have hcz9_0 : w8.cell? ⟨gb271, 0, none⟩ = some (.slice A0_0 l0_0.length c0_0) := (blk_cell BK271.out 0).trans rfl; have hcz9_1 : w8.cell? ⟨gb271, 1, none⟩ = some (.slice A0_1 l0_1.length c0_1) := (blk_cell BK271.out 1).trans rfl; have hfz9_0 := blk_frozen BK271.out 0; have hfz9_1 := blk_frozen BK271.out 1) | (go_at_call 32; (with_reducible refine (impl_sum.calls k _ _ l0_0 t273 _ ?side1 ?side2 A4.out).mono ?_); (case side1 => repeat (first | exact (Kd.C_below HR0_0.out HB.out) | (with_reducible refine Kd.C_alloc ?_ _) | (with_reducible refine Kd.C_drewN ?_ _) | (with_reducible refine Kd.C_drew ?_))); (case side2 => exact HC0_0.out); rintro e w' ⟨rfl, ⟨nd, rfl⟩⟩; (try first | exact ⟨rfl, _, World.drewN_drewN _ _ _⟩ | exact ⟨rfl, _, Eq.trans (World.drewN_drewN _ _ _) (congrArg (World.drewN _) (Nat.add_assoc _ _ _))⟩)) | (go_at_call 32; (with_reducible refine (impl_sum.calls k _ _ l0_1 t274 _ ?side1 ?side2 A5.out).mono ?_); (case side1 => repeat (first | exact (Kd.C_below HR0_1.out (by repeat (first | (with_reducible first | exact HB.out | apply below_alloc | apply pw_below_drewN | apply below_drew1 | refine below_set ?_ GE271.out) | exact HB.out))) | (with_reducible refine Kd.C_alloc ?_ _) | (with_reducible refine Kd.C_drewN ?_ _) | (with_reducible refine Kd.C_drew ?_))); (case side2 => exact HC0_1.out); rintro e w' ⟨rfl, ⟨nd, rfl⟩⟩; (try first | exact ⟨rfl, _, World.drewN_drewN _ _ _⟩ | exact ⟨rfl, _, Eq.trans (World.drewN_drewN _ _ _) (congrArg (World.drewN _) (Nat.add_assoc _ _ _))⟩))))
    go_ret
    exact ⟨by first | rfl | (simp [errW_none, errW_some] <;> rfl) | (simp [*, errW_none, errW_some] <;> rfl), by repeat (first | (with_reducible first | exact HB.out | apply below_alloc | apply pw_below_drewN | apply below_drew1 | refine below_set ?_ GE271.out) | exact HB.out)⟩
  · replace c3 := Bool.eq_false_iff.mpr c3
    subst c3
    have H1 : (some (-1)) = some r := by rw [if_neg (show ¬ (false = true) by decide)] at H; exact H
    clear H
    have H := H1
    clear H1
    obtain rfl := Option.some.inj H
    go_enter Tryd.func101, Tryd.ntmps101
    go_wp2_with (first | ((with_reducible refine gate_dst (N := 1) rfl ?_); refine box_event ?hg (N := 1) ?hd (cs := #[.slice A0_0 l0_0.length c0_0, .slice A0_1 l0_1.length c0_1]) (t := 38) ?hr ?_; (case hd => rfl); (case hg => rfl); (case hr => first | (go_simp; done) | (go_simp; rfl)); intro gb271 hg w10 hbox hb; have n0_ := Aside0.mk (below_step (by repeat (first | (with_reducible first | exact HB.out | apply below_alloc | apply pw_below_drewN | apply below_drew1) | exact HB.out)) hb); have n1_ := Aside0.mk (hbox); have n2_ := Aside0.mk ((by rw [hg]; exact (below_size (by repeat (first | (with_reducible first | exact HB.out | apply below_alloc | apply pw_below_drewN | apply below_drew1) | exact HB.out))) : w.heap.size ≤ gb271)); have n3_ := Aside0.mk ((by rw [hg]; exact (below_size (by repeat (first | (with_reducible first | exact HB.out | apply below_alloc | apply pw_below_drewN | apply below_drew1) | exact HB.out))) : w.heap.size ≤ gb271)); clear HB; have HB := n0_; have BK271 := n1_; have GW271 := n2_; have GE271 := n3_; clear n0_ n1_ n2_ n3_; clear hb hbox hg; have hcz11_0 : w10.cell? ⟨gb271, 0, none⟩ = some (.slice A0_0 l0_0.length c0_0) := (blk_cell BK271.out 0).trans rfl; have hcz11_1 : w10.cell? ⟨gb271, 1, none⟩ = some (.slice A0_1 l0_1.length c0_1) := (blk_cell BK271.out 1).trans rfl; have hfz11_0 := blk_frozen BK271.out 0; have hfz11_1 := blk_frozen BK271.out 1) | (go_at_call 98; (with_reducible refine (impl_IsShape.calls k _ _ l0_0 _ _ l0_1 false _ ?side1 ?side2 ?side3 ?side4 A2.out).mono ?_); (case side1 => repeat (first | exact (Kd.C_below HR0_0.out HB.out) | (with_reducible refine Kd.C_alloc ?_ _) | (with_reducible refine Kd.C_drewN ?_ _) | (with_reducible refine Kd.C_drew ?_))); (case side2 => exact HC0_0.out); (case side3 => repeat (first | exact (Kd.C_below HR0_1.out HB.out) | (with_reducible refine Kd.C_alloc ?_ _) | (with_reducible refine Kd.C_drewN ?_ _) | (with_reducible refine Kd.C_drew ?_))); (case side4 => exact HC0_1.out); rintro e w12 ⟨rfl, hb⟩; have n0_ := Aside0.mk (blk_below (g := gb271) (o := .cells #[.slice A0_0 l0_0.length c0_0, .slice A0_1 l0_1.length c0_1] 38 (0, 0)) (by (with_reducible repeat (first | refine blk_drewN ?_ _ | refine blk_drew ?_ | refine blk_alloc ?_ _)); exact BK271.out) hb); have n1_ := Aside0.mk (below_step (by repeat (first | (with_reducible first | exact HB.out | apply below_alloc | apply pw_below_drewN | apply below_drew1 | refine below_set ?_ GE271.out) | exact HB.out)) hb); clear BK271; clear HB; have BK271 := n0_; have HB := n1_; clear n0_ n1_; (try clear hb); (try clear hb2); (try clear hk); (try clear hi)))
    repeat (go_quiet (first | ((with_reducible refine gate_dst (N := 1) rfl ?_); refine box_event ?hg (N := 1) ?hd (cs := #[.slice A0_0 l0_0.length c0_0, .slice A0_1 l0_1.length c0_1]) (t := 38) ?hr ?_; (case hd => rfl); (case hg => rfl); (case hr => first | (go_simp; done) | (go_simp; rfl)); intro gb271 hg w10 hbox hb; have n0_ := Aside0.mk (below_step (by repeat (first | (with_reducible first | exact HB.out | apply below_alloc | apply pw_below_drewN | apply below_drew1) | exact HB.out)) hb); have n1_ := Aside0.mk (hbox); have n2_ := Aside0.mk ((by rw [hg]; exact (below_size (by repeat (first | (with_reducible first | exact HB.out | apply below_alloc | apply pw_below_drewN | apply below_drew1) | exact HB.out))) : w.heap.size ≤ gb271)); have n3_ := Aside0.mk ((by rw [hg]; exact (below_size (by repeat (first | (with_reducible first | exact HB.out | apply below_alloc | apply pw_below_drewN | apply below_drew1) | exact HB.out))) : w.heap.size ≤ gb271)); clear HB; have HB := n0_; have BK271 := n1_; have GW271 := n2_; have GE271 := n3_; clear n0_ n1_ n2_ n3_; clear hb hbox hg; have hcz11_0 : w10.cell? ⟨gb271, 0, none⟩ = some (.slice A0_0 l0_0.length c0_0) := (blk_cell BK271.out 0).trans rfl; have hcz11_1 : w10.cell? ⟨gb271, 1, none⟩ = some (.slice A0_1 l0_1.length c0_1) := (blk_cell BK271.out 1).trans rfl; have hfz11_0 := blk_frozen BK271.out 0; have hfz11_1 := blk_frozen BK271.out 1) | (go_at_call 98; (with_reducible refine (impl_IsShape.calls k _ _ l0_0 _ _ l0_1 false _ ?side1 ?side2 ?side3 ?side4 A2.out).mono ?_); (case side1 => repeat (first | exact (Kd.C_below HR0_0.out HB.out) | (with_reducible refine Kd.C_alloc ?_ _) | (with_reducible refine Kd.C_drewN ?_ _) | (with_reducible refine Kd.C_drew ?_))); (case side2 => exact HC0_0.out); (case side3 => repeat (first | exact (Kd.C_below HR0_1.out HB.out) | (with_reducible refine Kd.C_alloc ?_ _) | (with_reducible refine Kd.C_drewN ?_ _) | (with_reducible refine Kd.C_drew ?_))); (case side4 => exact HC0_1.out); rintro e w12 ⟨rfl, hb⟩; have n0_ := Aside0.mk (blk_below (g := gb271) (o := .cells #[.slice A0_0 l0_0.length c0_0, .slice A0_1 l0_1.length c0_1] 38 (0, 0)) (by (with_reducible repeat (first | refine blk_drewN ?_ _ | refine blk_drew ?_ | refine blk_alloc ?_ _)); exact BK271.out) hb); have n1_ := Aside0.mk (below_step (by repeat (first | (with_reducible first | exact HB.out | apply below_alloc | apply pw_below_drewN | apply below_drew1 | refine below_set ?_ GE271.out) | exact HB.out)) hb); clear BK271; clear HB; have BK271 := n0_; have HB := n1_; clear n0_ n1_; (try clear hb); (try clear hb2); (try clear hk); (try clear hi))); try go_wp2_with (first | ((with_reducible refine gate_dst (N := 1) rfl ?_); refine box_event ?hg (N := 1) ?hd (cs := #[.slice A0_0 l0_0.length c0_0, .slice A0_1 l0_1.length c0_1]) (t := 38) ?hr ?_; (case hd => rfl); (case hg => rfl); (case hr => first | (go_simp; done) | (go_simp; rfl)); intro gb271 hg w10 hbox hb; have n0_ := Aside0.mk (below_step (by repeat (first | (with_reducible first | exact HB.out | apply below_alloc | apply pw_below_drewN | apply below_drew1) | exact HB.out)) hb); have n1_ := Aside0.mk (hbox); have n2_ := Aside0.mk ((by rw [hg]; exact (below_size (by repeat (first | (with_reducible first | exact HB.out | apply below_alloc | apply pw_below_drewN | apply below_drew1) | exact HB.out))) : w.heap.size ≤ gb271)); have n3_ := Aside0.mk ((by rw [hg]; exact (below_size (by repeat (first | (with_reducible first | exact HB.out | apply below_alloc | apply pw_below_drewN | apply below_drew1) | exact HB.out))) : w.heap.size ≤ gb271)); clear HB; have HB := n0_; have BK271 := n1_; have GW271 := n2_; have GE271 := n3_; clear n0_ n1_ n2_ n3_; clear hb hbox hg; have hcz11_0 : w10.cell? ⟨gb271, 0, none⟩ = some (.slice A0_0 l0_0.length c0_0) := (blk_cell BK271.out 0).trans rfl; have hcz11_1 : w10.cell? ⟨gb271, 1, none⟩ = some (.slice A0_1 l0_1.length c0_1) := (blk_cell BK271.out 1).trans rfl; have hfz11_0 := blk_frozen BK271.out 0; have hfz11_1 := blk_frozen BK271.out 1) | (go_at_call 98; (with_reducible refine (impl_IsShape.calls k _ _ l0_0 _ _ l0_1 false _ ?side1 ?side2 ?side3 ?side4 A2.out).mono ?_); (case side1 => repeat (first | exact (Kd.C_below HR0_0.out HB.out) | (with_reducible refine Kd.C_alloc ?_ _) | (with_reducible refine Kd.C_drewN ?_ _) | (with_reducible refine Kd.C_drew ?_))); (case side2 => exact HC0_0.out); (case side3 => repeat (first | exact (Kd.C_below HR0_1.out HB.out) | (with_reducible refine Kd.C_alloc ?_ _) | (with_reducible refine Kd.C_drewN ?_ _) | (with_reducible refine Kd.C_drew ?_))); (case side4 => exact HC0_1.out); rintro e w12 ⟨rfl, hb⟩; have n0_ := Aside0.mk (blk_below (g := gb271) (o := .cells #[.slice A0_0 l0_0.length c0_0, .slice A0_1 l0_1.length c0_1] 38 (0, 0)) (by (with_reducible repeat (first | refine blk_drewN ?_ _ | refine blk_drew ?_ | refine blk_alloc ?_ _)); exact BK271.out) hb); have n1_ := Aside0.mk (below_step (by repeat (first | (with_reducible first | exact HB.out | apply below_alloc | apply pw_below_drewN | apply below_drew1 | refine below_set ?_ GE271.out) | exact HB.out)) hb); clear BK271; clear HB; have BK271 := n0_; have HB := n1_; clear n0_ n1_; (try clear hb); (try clear hb2); (try clear hk); (try clear hi))))
    go_ret
    exact ⟨by first | rfl | (simp [errW_none, errW_some] <;> rfl) | (simp [*, errW_none, errW_some] <;> rfl), by repeat (first | (with_reducible first | exact HB.out | apply below_alloc | apply pw_below_drewN | apply below_drew1 | refine below_set ?_ GE271.out) | exact HB.out)⟩
def impl_Tableau_own.l0 : Nat → List (List Int) → Int → Int → List Int → List (List Int) → Option (List Int × (List (List Int)))
  | 0, _, _, _, _, _ => none
  | k + 1, x11, x12, x13, x281000, x281001 => if x13 < x12 then (if 0 ≤ x13 then (if x13 < (x11.length : Int) then ((slices_Clone_int_int.f (rd_L3 x11 x13)).bind fun t282 => (if x281001.length < 5864062014805 then (impl_Tableau_own.l0 k x11 x12 (wrap64 (x13 + 1)) x281000 (x281001 ++ [t282])) else (none))) else (none)) else (none)) else (some (x281000, x281001))
def impl_Tableau_own.f (k : Nat) (l0_0 : List Int) (l0_1 : List (List Int)) : Option (List Int × (List (List Int))) := (slices_Clone_int_int.f l0_0).bind fun t277 => (impl_Tableau_own.l0 k l0_1 (l0_1.length : Int) 0 t277 ([] : List (List Int)))
def impl_Tableau_own.T5 : Bool × List (List Nat × List Nat) := (true, [([], []), ([0], [0]), ([], []), ([2], [2]), ([3], [3]), ([1, 4, 3], [1, 4]), ([0, 1, 2, 3, 4, 5], []), ([6, 5, 5, 0, 1, 2, 3, 4, 5], [5, 6])])
def impl_Tableau_own.B5 : List Nat := [0, 1, 0, 4, 12, 31, 63, 127]
theorem impl_Tableau_own.tab5 : rtab .any (opsOf Tryd.f159 5) = impl_Tableau_own.T5 := by kernel_rfl
theorem impl_Tableau_own.bits5 : waitsOk impl_Tableau_own.T5.2 impl_Tableau_own.B5 = true := by kernel_rfl
set_option maxHeartbeats 8000000 in
set_option maxRecDepth 100000 in
theorem impl_Tableau_own.calls (k : Nat) (A0_0 : Option Addr) (c0_0 : Nat) (l0_0 : List Int) (A0_1 : Option Addr) (c0_1 : Nat) (l0_1 : List (List Int)) (r1 : List Int) (r2 : List (List Int)) (w : World) (hr0_0 : Kd.C (Kd.int .i64) w A0_0 l0_0.length l0_0) (hc0_0 : l0_0.length ≤ c0_0) (hr0_1 : Kd.C (Kd.slice 3 (Kd.int .i64)) w A0_1 l0_1.length l0_1) (hc0_1 : l0_1.length ≤ c0_1) (h : impl_Tableau_own.f k l0_0 l0_1 = some (r1, r2)) :
    Calls Tryd.prog 159 #[.agg #[.slice A0_0 l0_0.length c0_0, .slice A0_1 l0_1.length c0_1]] w fun e w' => ∃ v0_ v1_ : Value, e = .returned (.agg #[v0_, v1_]) ∧ Kd.R (Kd.int .i64) 3 w' w.heap.size (fun _ => True) v0_ r1 ∧ Kd.S (Kd.slice 3 (Kd.int .i64)) 22 w' w.heap.size (fun k_ => some k_ ≠ (v0_ : Value).ownBlock) v1_ r2 ∧ Below w.heap.size w w' := by
  have hu56 := Tryd.underlying56
  have HR0_0 := Aside0.mk hr0_0
  have HC0_0 := Aside0.mk hc0_0
  clear hr0_0 hc0_0
  have HR0_1 := Aside0.mk hr0_1
  have HC0_1 := Aside0.mk hc0_1
  clear hr0_1 hc0_1
  have HB := Aside0.mk (Below.refl w.heap.size w)
  have H : ((slices_Clone_int_int.f l0_0).bind fun t277 => (impl_Tableau_own.l0 k l0_1 (l0_1.length : Int) 0 t277 ([] : List (List Int)))) = some (r1, r2) := h
  clear h
  replace H := Option.bind_eq_some_iff.mp H
  obtain ⟨t277, A20, H⟩ := H
  replace H : (impl_Tableau_own.l0 k l0_1 (l0_1.length : Int) 0 t277 ([] : List (List Int))) = some (r1, r2) := H
  have A2 := Aside0.mk A20
  clear A20
  have H' := Aside0.mk H
  clear H
  go_enter Tryd.func159, Tryd.ntmps159
  go_wp2_with (first | ((with_reducible refine gate_dst (N := 1) rfl ?_); refine box_event ?hg (N := 1) ?hd (cs := #[.slice A0_0 l0_0.length c0_0, .slice A0_1 l0_1.length c0_1]) (t := 56) ?hr ?_; (case hd => rfl); (case hg => rfl); (case hr => first | (go_simp; done) | (go_simp; rfl)); intro gb275 hg w3 hbox hb; have n0_ := Aside0.mk (below_step (by repeat (first | (with_reducible first | exact HB.out | apply below_alloc | apply pw_below_drewN | apply below_drew1) | exact HB.out)) hb); have n1_ := Aside0.mk (hbox); have n2_ := Aside0.mk ((by rw [hg]; exact (below_size (by repeat (first | (with_reducible first | exact HB.out | apply below_alloc | apply pw_below_drewN | apply below_drew1) | exact HB.out))) : w.heap.size ≤ gb275)); have n3_ := Aside0.mk ((by rw [hg]; exact (below_size (by repeat (first | (with_reducible first | exact HB.out | apply below_alloc | apply pw_below_drewN | apply below_drew1) | exact HB.out))) : w.heap.size ≤ gb275)); clear HB; have HB := n0_; have BK275 := n1_; have GW275 := n2_; have GE275 := n3_; clear n0_ n1_ n2_ n3_; clear hb hbox hg) | ((with_reducible refine gate_dst (N := 2) rfl ?_); refine box_event ?hg (N := 2) ?hd (cs := #[.slice none 0 0, .slice none 0 0]) (t := 56) ?hr ?_; (case hd => rfl); (case hg => rfl); (case hr => first | (go_simp; done) | (go_simp; rfl)); intro gb276 hg w4 hbox hb; have n0_ := Aside0.mk (blk_below (g := gb275) (o := .cells #[.slice A0_0 l0_0.length c0_0, .slice A0_1 l0_1.length c0_1] 56 (0, 0)) (by (with_reducible repeat (first | refine blk_drewN ?_ _ | refine blk_drew ?_ | refine blk_alloc ?_ _)); exact BK275.out) hb); have n1_ := Aside0.mk (below_step (by repeat (first | (with_reducible first | exact HB.out | apply below_alloc | apply pw_below_drewN | apply below_drew1 | refine below_set ?_ GE275.out) | exact HB.out)) hb); have n2_ := Aside0.mk (hbox); have n3_ := Aside0.mk ((by rw [hg]; exact (below_size (by repeat (first | (with_reducible first | exact HB.out | apply below_alloc | apply pw_below_drewN | apply below_drew1 | refine below_set ?_ GE275.out) | exact HB.out))) : w.heap.size ≤ gb276)); have n4_ := Aside0.mk ((by rw [hg]; exact (below_size (by repeat (first | (with_reducible first | exact HB.out | apply below_alloc | apply pw_below_drewN | apply below_drew1 | refine below_set ?_ GE275.out) | exact HB.out))) : w.heap.size ≤ gb276)); have n5_ := Aside0.mk ((by rw [hg]; exact Nat.ne_of_lt (blk_lt (g := gb275) (o := .cells #[.slice A0_0 l0_0.length c0_0, .slice A0_1 l0_1.length c0_1] 56 (0, 0)) (by (with_reducible repeat (first | refine blk_drewN ?_ _ | refine blk_drew ?_ | refine blk_alloc ?_ _)); exact BK275.out)) : gb275 ≠ gb276)); have n6_ := Aside0.mk ((by rw [hg]; exact Nat.ne_of_gt (blk_lt (g := gb275) (o := .cells #[.slice A0_0 l0_0.length c0_0, .slice A0_1 l0_1.length c0_1] 56 (0, 0)) (by (with_reducible repeat (first | refine blk_drewN ?_ _ | refine blk_drew ?_ | refine blk_alloc ?_ _)); exact BK275.out)) : gb276 ≠ gb275)); clear BK275; clear HB; have BK275 := n0_; have HB := n1_; have BK276 := n2_; have GW276 := n3_; have GE276 := n4_; have NB275_276 := n5_; have NB276_275 := n6_; clear n0_ n1_ n2_ n3_ n4_ n5_ n6_; clear hb hbox hg; have hnb5 := NB275_276.out; have hnc5 := NB276_275.out; have hcz6_0 : w4.cell? ⟨gb275, 0, none⟩ = some (.slice A0_0 l0_0.length c0_0) := (blk_cell BK275.out 0).trans rfl; have hcz6_1 : w4.cell? ⟨gb275, 1, none⟩ = some (.slice A0_1 l0_1.length c0_1) := (blk_cell BK275.out 1).trans rfl; have hfz6_0 := blk_frozen BK275.out 0; have hfz6_1 := blk_frozen BK275.out 1) | ((with_reducible refine gate_callee (f := 31) rfl ?_); refine goesL_ (some 8) rfl rfl Tryd.func31 (by kernel_rfl) rfl #[.slice A0_0 l0_0.length c0_0] rfl (by (try simp only [List.map_toArray, List.map_cons, List.map_nil]); first | done | rfl | (simp only [List.length_drop, List.length_take]; rfl)) ?_; (with_reducible refine (slices_Clone_int_int.calls _ _ l0_0 t277 _ ?side1 ?side2 A2.out).mono ?_); (case side1 => repeat (first | exact (Kd.C_below HR0_0.out HB.out) | (with_reducible refine Kd.C_alloc ?_ _) | (with_reducible refine Kd.C_drewN ?_ _) | (with_reducible refine Kd.C_drew ?_))); (case side2 => exact HC0_0.out); rintro e w7 ⟨v278, rfl, ho0, hb⟩; refine ⟨_, rfl, ?_⟩; have n0_ := Aside0.mk (Kd.R_lower ho0 (below_size (by repeat (first | (with_reducible first | exact HB.out | apply below_alloc | apply pw_below_drewN | apply below_drew1 | refine below_set ?_ GE275.out | refine below_set ?_ GE276.out) | exact HB.out)))); have n1_ := Aside0.mk (blk_below (g := gb275) (o := .cells #[.slice A0_0 l0_0.length c0_0, .slice A0_1 l0_1.length c0_1] 56 (0, 0)) (by (with_reducible repeat (first | refine blk_drewN ?_ _ | refine blk_drew ?_ | refine blk_alloc ?_ _)); exact BK275.out) hb); have n2_ := Aside0.mk (blk_below (g := gb276) (o := .cells #[.slice none 0 0, .slice none 0 0] 56 (0, 0)) (by (with_reducible repeat (first | refine blk_drewN ?_ _ | refine blk_drew ?_ | refine blk_alloc ?_ _)); exact BK276.out) hb); have n3_ := Aside0.mk (below_step (by repeat (first | (with_reducible first | exact HB.out | apply below_alloc | apply pw_below_drewN | apply below_drew1 | refine below_set ?_ GE275.out | refine below_set ?_ GE276.out) | exact HB.out)) hb); clear BK275; clear BK276; clear HB; have HO279 := n0_; have BK275 := n1_; have BK276 := n2_; have HB := n3_; clear n0_ n1_ n2_ n3_; (try clear hb); (try clear hb2); (try clear hk); (try clear hi); (try clear ho0); obtain ⟨Ao8, co8, eo8⟩ := Kd.R_slice HO279.out; subst eo8) | ((with_reducible refine gate_dst (N := 3) rfl ?_); refine box_event ?hg (N := 3) ?hd (cs := #[.slice none 0 0, .slice none 0 0]) (t := 56) ?hr ?_; (case hd => rfl); (case hg => rfl); (case hr => first | (go_simp; done) | (go_simp; rfl)); intro gb280 hg w9 hbox hb; have n0_ := Aside0.mk (Kd.R_below (by (with_reducible repeat (first | apply Kd.R_alloc | apply Kd.R_drewN | apply Kd.R_drew)); exact HO279.out) hb); have n1_ := Aside0.mk (blk_below (g := gb275) (o := .cells #[.slice A0_0 l0_0.length c0_0, .slice A0_1 l0_1.length c0_1] 56 (0, 0)) (by (with_reducible repeat (first | refine blk_drewN ?_ _ | refine blk_drew ?_ | refine blk_alloc ?_ _)); exact BK275.out) hb); have n2_ := Aside0.mk (blk_below (g := gb276) (o := .cells #[.slice none 0 0, .slice none 0 0] 56 (0, 0)) (by (with_reducible repeat (first | refine blk_drewN ?_ _ | refine blk_drew ?_ | refine blk_alloc ?_ _)); exact BK276.out) hb); have n3_ := Aside0.mk (below_step (by repeat (first | (with_reducible first | exact HB.out | apply below_alloc | apply pw_below_drewN | apply below_drew1 | refine below_set ?_ GE275.out | refine below_set ?_ GE276.out) | exact HB.out)) hb); have n4_ := Aside0.mk (hbox); have n5_ := Aside0.mk ((by rw [hg]; exact (below_size (by repeat (first | (with_reducible first | exact HB.out | apply below_alloc | apply pw_below_drewN | apply below_drew1 | refine below_set ?_ GE275.out | refine below_set ?_ GE276.out) | exact HB.out))) : w.heap.size ≤ gb280)); have n6_ := Aside0.mk ((by rw [hg]; exact (below_size (by repeat (first | (with_reducible first | exact HB.out | apply below_alloc | apply pw_below_drewN | apply below_drew1 | refine below_set ?_ GE275.out | refine below_set ?_ GE276.out) | exact HB.out))) : w.heap.size ≤ gb280)); have n7_ := Aside0.mk ((by rw [hg]; exact Nat.ne_of_lt (blk_lt (g := gb275) (o := .cells #[.slice A0_0 l0_0.length c0_0, .slice A0_1 l0_1.length c0_1] 56 (0, 0)) (by (with_reducible repeat (first | refine blk_drewN ?_ _ | refine blk_drew ?_ | refine blk_alloc ?_ _)); exact BK275.out)) : gb275 ≠ gb280)); have n8_ := Aside0.mk ((by rw [hg]; exact Nat.ne_of_gt (blk_lt (g := gb275) (o := .cells #[.slice A0_0 l0_0.length c0_0, .slice A0_1 l0_1.length c0_1] 56 (0, 0)) (by (with_reducible repeat (first | refine blk_drewN ?_ _ | refine blk_drew ?_ | refine blk_alloc ?_ _)); exact BK275.out)) : gb280 ≠ gb275)); have n9_ := Aside0.mk ((by rw [hg]; exact Nat.ne_of_lt (blk_lt (g := gb276) (o := .cells #[.slice none 0 0, .slice none 0 0] 56 (0, 0)) (by (with_reducible repeat (first | refine blk_drewN ?_ _ | refine blk_drew ?_ | refine blk_alloc ?_ _)); exact BK276.out)) : gb276 ≠ gb280)); have n10_ := Aside0.mk ((by rw [hg]; exact Nat.ne_of_gt (blk_lt (g := gb276) (o := .cells #[.slice none 0 0, .slice none 0 0] 56 (0, 0)) (by (with_reducible repeat (first | refine blk_drewN ?_ _ | refine blk_drew ?_ | refine blk_alloc ?_ _)); exact BK276.out)) : gb280 ≠ gb276)); clear HO279; clear BK275; clear BK276; clear HB; have HO279 := n0_; have BK275 := n1_; have BK276 := n2_; have HB := n3_; have BK280 := n4_; have GW280 := n5_; have GE280 := n6_; have NB275_280 := n7_; have NB280_275 := n8_; have NB276_280 := n9_; have NB280_276 := n10_; clear n0_ n1_ n2_ n3_ n4_ n5_ n6_ n7_ n8_ n9_ n10_; clear hb hbox hg; have hnb10 := NB280_275.out; have hnc10 := NB275_280.out; have hnb11 := NB280_276.out; have hnc11 := NB276_280.out; have hcz12_0 : w9.cell? ⟨gb280, 0, none⟩ = some (.slice none 0 0) := (blk_cell BK280.out 0).trans rfl; have hcz12_1 : w9.cell? ⟨gb280, 1, none⟩ = some (.slice none 0 0) := (blk_cell BK280.out 1).trans rfl; have hfz12_0 := blk_frozen BK280.out 0; have hfz12_1 := blk_frozen BK280.out 1; have hcz13_0 : w9.cell? ⟨gb275, 0, none⟩ = some (.slice A0_0 l0_0.length c0_0) := (blk_cell BK275.out 0).trans rfl; have hcz13_1 : w9.cell? ⟨gb275, 1, none⟩ = some (.slice A0_1 l0_1.length c0_1) := (blk_cell BK275.out 1).trans rfl; have hfz13_0 := blk_frozen BK275.out 0; have hfz13_1 := blk_frozen BK275.out 1))
  go_loopg [13] k (fun kq v13 w' => ∃ (x13_1 : Int) (x281001_1 : List (List Int)) (u281001 : Value), v13 = .int .i64 x13_1 ∧ Aside0 (impl_Tableau_own.l0 kq l0_1 (l0_1.length : Int) x13_1 t277 x281001_1 = some (r1, r2)) ∧ Aside0 (kq ≤ k) ∧ Aside0 (Kd.R (Kd.int .i64) 3 w' w.heap.size (fun _ => True) (.slice Ao8 t277.length co8) t277) ∧ Aside0 (Kd.S (Kd.slice 3 (Kd.int .i64)) 22 w' w.heap.size (fun k_ => some k_ ≠ ((.slice Ao8 t277.length co8) : Value).ownBlock) u281001 x281001_1) ∧ Aside0 (w'.heap[gb275]? = some (.cells #[(.slice A0_0 l0_0.length c0_0), (.slice A0_1 l0_1.length c0_1)] 56 (0, 0))) ∧ Aside0 (w'.heap[gb276]? = some (.cells #[(.slice none 0 0), (.slice none 0 0)] 56 (0, 0))) ∧ Aside0 (w'.heap[gb280]? = some (.cells #[(.slice Ao8 t277.length co8), u281001] 56 (0, 0))) ∧ Aside0 (Below w.heap.size w w'))
  case atStart => exact ⟨(0), (([] : List (List Int))), (.slice none 0 0), (by first | rfl | (simp; done) | (simp [*]; done)), H', ⟨Nat.le_refl _⟩, ⟨by (with_reducible repeat (first | apply Kd.R_alloc | apply Kd.R_drewN | apply Kd.R_drew)); exact Kd.R_mono (Kd.R_far (p := ⟨gb280, 1, none⟩) (Kd.R_far (p := ⟨gb280, 0, none⟩) (Kd.R_types HO279.out BK280.out (by decide)) (fun _ hk => hk.2) (.slice Ao8 t277.length co8)) (fun _ hk => hk.2) (.slice none 0 0)) (fun _ hk => trivial)⟩, ⟨by first | exact Kd.S_nil _ _ _ _ _ | exact Kd.N_nil _ _ _ _ _ | exact Kd.V_nil _ _ _ _ _ | exact Kd.Q_nil _ _ _ _ _ | exact Kd.R_nil _ _ _ _ _⟩, ⟨by (with_reducible repeat (first | refine blk_drewN ?_ _ | refine blk_drew ?_ | refine blk_alloc ?_ _)); refine blk_far ?_ NB275_280.out _; (with_reducible repeat (first | refine blk_drewN ?_ _ | refine blk_drew ?_ | refine blk_alloc ?_ _)); refine blk_far ?_ NB275_280.out _; (with_reducible repeat (first | refine blk_drewN ?_ _ | refine blk_drew ?_ | refine blk_alloc ?_ _)); exact BK275.out⟩, ⟨by (with_reducible repeat (first | refine blk_drewN ?_ _ | refine blk_drew ?_ | refine blk_alloc ?_ _)); refine blk_far ?_ NB276_280.out _; (with_reducible repeat (first | refine blk_drewN ?_ _ | refine blk_drew ?_ | refine blk_alloc ?_ _)); refine blk_far ?_ NB276_280.out _; (with_reducible repeat (first | refine blk_drewN ?_ _ | refine blk_drew ?_ | refine blk_alloc ?_ _)); exact BK276.out⟩, ⟨by (with_reducible repeat (first | refine blk_drewN ?_ _ | refine blk_drew ?_ | refine blk_alloc ?_ _)); refine blk_put (cs := #[.slice Ao8 t277.length co8, .slice none 0 0]) ?_ 1 _ rfl; (with_reducible repeat (first | refine blk_drewN ?_ _ | refine blk_drew ?_ | refine blk_alloc ?_ _)); refine blk_put (cs := #[.slice none 0 0, .slice none 0 0]) ?_ 0 _ rfl; (with_reducible repeat (first | refine blk_drewN ?_ _ | refine blk_drew ?_ | refine blk_alloc ?_ _)); exact BK280.out⟩, ⟨by repeat (first | (with_reducible first | exact HB.out | apply below_alloc | apply pw_below_drewN | apply below_drew1 | refine below_set ?_ GE275.out | refine below_set ?_ GE276.out | refine below_set ?_ GE280.out) | exact HB.out)⟩⟩
  case round =>
    clear H'
    try clear c1
    try clear p2
    try clear c3
    try clear c5
    try clear c10
    try clear c11
    try clear hcz12_0
    try clear hcz12_1
    try clear hcz13_0
    try clear hcz13_1
    try clear hcz6_0
    try clear hcz6_1
    try clear hfz12_0
    try clear hfz12_1
    try clear hfz13_0
    try clear hfz13_1
    try clear hfz6_0
    try clear hfz6_1
    obtain ⟨x13_1, x281001_1, u281001, rfl, HA, HK1, HO_281000, HO_281001, BK275, BK276, BK280, HB⟩ := hrel
    cases gk with
    | zero => exact absurd HA.out (by simp [impl_Tableau_own.l0])
    | succ k1 =>
      have H := HA.out
      clear HA
      simp only [impl_Tableau_own.l0] at H
      by_cases c14 : x13_1 < (l0_1.length : Int)
      · rw [if_pos c14] at H
        have c14b0 : decide (x13_1 < (l0_1.length : Int)) = true := decide_eq_true c14
        clear c14
        by_cases c15 : 0 ≤ x13_1
        · rw [if_pos c15] at H
          have c15b0 : decide (0 ≤ x13_1) = true := decide_eq_true c15
          clear c15
          by_cases c16 : x13_1 < (l0_1.length : Int)
          · rw [if_pos c16] at H
            have c16b0 : decide (x13_1 < (l0_1.length : Int)) = true := decide_eq_true c16
            clear c16
            replace H := Option.bind_eq_some_iff.mp H
            obtain ⟨t282, A170, H⟩ := H
            replace H : (if x281001_1.length < 5864062014805 then (impl_Tableau_own.l0 k1 l0_1 (l0_1.length : Int) (wrap64 (x13_1 + 1)) t277 (x281001_1 ++ [t282])) else (none)) = some (r1, r2) := H
            have A17 := Aside0.mk A170
            clear A170
            by_cases c18 : x281001_1.length < 5864062014805
            · rw [if_pos c18] at H
              have LMc18 := Aside0.mk c18
              clear c18
              obtain ⟨y285, hy285⟩ : ∃ y_ : List (List Int), y_ = (x281001_1 ++ [t282]) := ⟨_, rfl⟩
              replace H : (impl_Tableau_own.l0 k1 l0_1 (l0_1.length : Int) (wrap64 (x13_1 + 1)) t277 y285) = some (r1, r2) := by first | (rw [hy285]; with_reducible exact H) | (have H2_ := (Option.bind_some _ _).symm.trans H; rw [hy285]; with_reducible exact H2_) | (have H2_ := (Option.bind_some _ _).symm.trans H; with_reducible exact H2_) | with_reducible exact H | (rw [hy285]; exact H) | exact H
              have Ny285 := Aside0.mk hy285
              clear hy285
              have H' := Aside0.mk H
              clear H
              have p281 : 0 ≤ (x13_1 : Int) := of_decide_eq_true (by first | (with_reducible assumption) | assumption)
              have q281 : x13_1 < (l0_1.length : Int) := of_decide_eq_true (by first | (with_reducible assumption) | assumption)
              obtain ⟨ad281, A281_0, c281_0, e281, hx281_0, hl281_0, hi281_0⟩ := at_L3 HR0_1.out x13_1 p281 q281
              cases e281
              replace hx281_0 := (HB.out.cell (World.block_lt_of_cell? w _ hx281_0)).trans hx281_0
              have HR281_0 := Aside0.mk hi281_0
              have HC281_0 := Aside0.mk hl281_0
              clear hi281_0 hl281_0
              replace p281 := eq_true p281
              replace q281 := eq_true q281
              try go_wp2
              have n0_ := Aside0.mk (Kd.R_drew HO_281000.out)
              have n1_ := Aside0.mk (Kd.S_drew HO_281001.out)
              have n2_ := Aside0.mk (blk_drew BK275.out)
              have n3_ := Aside0.mk (blk_drew BK276.out)
              have n4_ := Aside0.mk (blk_drew BK280.out)
              have n5_ := Aside0.mk (below_drew1 HB.out)
              clear HO_281000
              clear HO_281001
              clear BK275
              clear BK276
              clear BK280
              clear HB
              have HO_281000 := n0_
              have HO_281001 := n1_
              have BK275 := n2_
              have BK276 := n3_
              have BK280 := n4_
              have HB := n5_
              clear n0_ n1_ n2_ n3_ n4_ n5_
              refine start_ (n := 8) (S := fun w' => w'.cell? ⟨gb280, 0, none⟩ = some (.slice Ao8 t277.length co8) ∧ w'.cell? ⟨gb280, 1, none⟩ = some (u281001)) (ds := [7]) #[false, false, false, false, false, false, false, false] (by kernel_rfl) rfl rfl ⟨(blk_cell BK280.out 0).trans rfl, (blk_cell BK280.out 1).trans rfl⟩ (fun hHeld => ?_); refine with_tabW impl_Tableau_own.tab5 impl_Tableau_own.bits5 (fun HT_ HW_ => ?_)
              generalize wr.drew = w19 at HO_281000 HO_281001 BK275 BK276 BK280 HB hHeld ⊢
              refine pure_ (i := 0) (N := some 17) (v := ?_) (a' := ?_) #[true, false, false, false, false, false, false, false] rfl rfl (any_of HT_.out (by kernel_rfl)) (fun _ _ _ h => h) (Or.inl ⟨by rfl, ?_⟩) ?_ ?_
              rotate_left
              · intro w'
                go_simp
                with_reducible rfl
              rotate_left
              · simp only [Act.put, List.setIfInBounds_toArray, List.set_cons_zero, List.set_cons_succ, i64_w, i32_w]
                rfl
              refine pure_ (i := 2) (N := some 19) (v := ?_) (a' := ?_) #[true, false, true, false, false, false, false, false] rfl rfl (any_of HT_.out (by kernel_rfl)) (fun _ _ _ h => h) (Or.inl ⟨by rfl, ?_⟩) ?_ ?_
              rotate_left
              · intro w'
                go_simp
                with_reducible rfl
              rotate_left
              · simp only [Act.put, List.setIfInBounds_toArray, List.set_cons_zero, List.set_cons_succ, i64_w, i32_w]
                rfl
              refine take_ (i := 1) (N := some 18) (v := ?_) (a' := ?_) #[true, true, true, false, false, false, false, false] rfl rfl (take_ofW HT_.out HW_.out (by kernel_rfl)) (fun _ _ _ h => h) (Or.inl ⟨by rfl, ?_⟩) hHeld ?_ ?_
              rotate_left
              · rintro w' ⟨s0, s1⟩
                go_simp
                with_reducible rfl
              rotate_left
              · simp only [Act.put, List.setIfInBounds_toArray, List.set_cons_zero, List.set_cons_succ, i64_w, i32_w]
                rfl
              refine one_ (i := 3) (N := some 20) #[true, true, true, true, false, false, false, false] rfl rfl (one_of HT_.out (by kernel_rfl)) (by decide) (fun K hK => ?_)
              refine goes_ Tryd.func31 (by kernel_rfl) rfl #[.slice A281_0 (rd_L3 l0_1 x13_1).length c281_0] (by rfl) rfl rfl (by (try simp only [List.map_toArray, List.map_cons, List.map_nil]); first | done | rfl | (simp only [List.length_drop, List.length_take]; rfl)) ?_
              with_reducible refine (slices_Clone_int_int.calls _ _ (rd_L3 l0_1 x13_1) t282 _ ?side1 ?side2 A17.out).mono ?_
              (case side1 => repeat (first | exact (Kd.C_below HR281_0.out HB.out) | (with_reducible refine Kd.C_alloc ?_ _) | (with_reducible refine Kd.C_drewN ?_ _) | (with_reducible refine Kd.C_drew ?_)))
              (case side2 => exact HC281_0.out)
              rintro e w20 ⟨v283, rfl, ho0, hb⟩
              refine ⟨_, rfl, ?_⟩
              have n0_ := Aside0.mk (Kd.R_elder' (by (with_reducible repeat (first | apply Kd.R_alloc | apply Kd.R_drewN | apply Kd.R_drew)); exact HO_281000.out) (Kd.R_base ho0) hb)
              have n1_ := Aside0.mk (Kd.S_elder' (by (with_reducible repeat (first | apply Kd.S_alloc | apply Kd.S_drewN | apply Kd.S_drew)); exact HO_281001.out) (Kd.R_base ho0) hb)
              have n2_ := Aside0.mk (Kd.R_lower (Kd.R_new' ho0 (Kd.R_lt (by (with_reducible repeat (first | apply Kd.R_alloc | apply Kd.R_drewN | apply Kd.R_drew)); exact HO_281000.out))) (below_size (by repeat (first | (with_reducible first | exact HB.out | apply below_alloc | apply pw_below_drewN | apply below_drew1 | refine below_set ?_ GE275.out | refine below_set ?_ GE276.out | refine below_set ?_ GE280.out) | exact HB.out))))
              have n3_ := Aside0.mk (blk_below (g := gb275) (o := .cells #[.slice A0_0 l0_0.length c0_0, .slice (some ad281) l0_1.length c0_1] 56 (0, 0)) (by (with_reducible repeat (first | refine blk_drewN ?_ _ | refine blk_drew ?_ | refine blk_alloc ?_ _)); exact BK275.out) hb)
              have n4_ := Aside0.mk (blk_below (g := gb276) (o := .cells #[.slice none 0 0, .slice none 0 0] 56 (0, 0)) (by (with_reducible repeat (first | refine blk_drewN ?_ _ | refine blk_drew ?_ | refine blk_alloc ?_ _)); exact BK276.out) hb)
              have n5_ := Aside0.mk (blk_below (g := gb280) (o := .cells #[.slice Ao8 t277.length co8, u281001] 56 (0, 0)) (by (with_reducible repeat (first | refine blk_drewN ?_ _ | refine blk_drew ?_ | refine blk_alloc ?_ _)); exact BK280.out) hb)
              have n6_ := Aside0.mk (below_step (by repeat (first | (with_reducible first | exact HB.out | apply below_alloc | apply pw_below_drewN | apply below_drew1 | refine below_set ?_ GE275.out | refine below_set ?_ GE276.out | refine below_set ?_ GE280.out) | exact HB.out)) hb)
              clear HO_281000
              clear HO_281001
              clear BK275
              clear BK276
              clear BK280
              clear HB
              have HO_281000 := n0_
              have HO_281001 := n1_
              have HO284 := n2_
              have BK275 := n3_
              have BK276 := n4_
              have BK280 := n5_
              have HB := n6_
              clear n0_ n1_ n2_ n3_ n4_ n5_ n6_
              (try clear hb)
              (try clear hb2)
              (try clear hk)
              (try clear hi)
              (try clear ho0)
              obtain ⟨Ao22, co22, eo22⟩ := Kd.R_slice HO284.out
              (first | subst eo22 | (injection eo22 with f1_ f2_ f3_; have f4_ := f1_.symm; have f5_ := f3_.symm; clear f1_ f2_ f3_; subst f4_; subst f5_))
              refine hK.out _ _ ⟨(blk_cell BK280.out 0).trans rfl, (blk_cell BK280.out 1).trans rfl⟩ (fun hHeld => ?_)
              clear hK K
              refine norm_ (a' := ?_) ?_ ?_
              rotate_left
              · show Act.put _ (some 20) _ = _
                simp only [Act.put, List.setIfInBounds_toArray, List.set_cons_zero, List.set_cons_succ, i64_w, i32_w]
                rfl
              refine one_ (i := 4) (N := some 21) #[true, true, true, true, true, false, false, false] rfl rfl (one_of HT_.out (by kernel_rfl)) (by decide) (fun K hK => ?_)
              refine value_ (w1 := ?_) (v := ?_) (by rfl) rfl ?_ ?_
              rotate_left 2
              · go_simp
                constructor
                · rfl
                · rfl
              refine hK.out _ _ ⟨(blk_cell (blk_alloc BK280.out _) 0).trans rfl, (blk_cell (blk_alloc BK280.out _) 1).trans rfl⟩ (fun hHeld => ?_)
              clear hK K
              refine norm_ (a' := ?_) ?_ ?_
              rotate_left
              · show Act.put _ (some 21) _ = _
                simp only [Act.put, List.setIfInBounds_toArray, List.set_cons_zero, List.set_cons_succ, i64_w, i32_w]
                rfl
              refine one_ (i := 5) (N := some 22) #[true, true, true, true, true, true, false, false] rfl rfl (one_of HT_.out (by kernel_rfl)) (by decide) (fun K hK => ?_)
              refine Kd.S_append_step (Kd.slice 3 (Kd.int .i64)) (w0 := w) w.heap.size (by rfl) (.tmp 18) (.tmp 21) 51 22 (.slice none 0 0) 24 rfl Tryd.underlying51 info22 rfl (by decide) (by omega) u281001 x281001_1 t282 [.slice Ao22 t282.length co22] (fun k_ => some k_ ≠ (.slice Ao8 t277.length co8 : Value).ownBlock) (fun k_ => some k_ = (.slice Ao22 t282.length co22 : Value).ownBlock) rfl rfl ?aP (fun k_ hk_ => ((Kd.R_mono (ok' := fun k_ => ((fun k_ => some k_ ≠ (.slice Ao8 t277.length co8 : Value).ownBlock)) k_ ∧ some k_ ≠ (u281001 : Value).ownBlock) (Kd.R_apart' (HO284.out) (Kd.S_typed HO_281001.out) (by decide)) (fun k_ hk => ⟨hk.1.2, hk.2⟩))).1 k_ hk_.symm) ?aF ?aO ?aB ?aS ?aL ?_
              (case aP => exact Kd.M_row (Kd.R_mono (Kd.R_tight rfl (Kd.R_mono (ok' := fun k_ => ((fun k_ => some k_ ≠ (.slice Ao8 t277.length co8 : Value).ownBlock)) k_ ∧ some k_ ≠ (u281001 : Value).ownBlock) (Kd.R_apart' (HO284.out) (Kd.S_typed HO_281001.out) (by decide)) (fun k_ hk => ⟨hk.1.2, hk.2⟩))) (fun _ h_ => h_)))
              (case aB => exact (by repeat (first | (with_reducible first | exact HB.out | apply below_alloc | apply pw_below_drewN | apply below_drew1 | refine below_set ?_ GE275.out | refine below_set ?_ GE276.out | refine below_set ?_ GE280.out) | exact HB.out)))
              (case aF => exact (fun k_ hk => Kd.fresh' (Kd.R_lt (by (with_reducible repeat (first | apply Kd.R_alloc | apply Kd.R_drewN | apply Kd.R_drew)); exact HO_281000.out)) k_ hk))
              (case aO => exact (by (with_reducible repeat (first | apply Kd.S_alloc | apply Kd.S_drewN | apply Kd.S_drew)); exact Kd.S_mono HO_281001.out (fun k_ hk => ⟨hk.1, fun e_ => hk.2 e_⟩)))
              (case aS => exact (below_size (by repeat (first | (with_reducible first | exact HB.out | apply below_alloc | apply pw_below_drewN | apply below_drew1 | refine below_set ?_ GE275.out | refine below_set ?_ GE276.out | refine below_set ?_ GE280.out) | exact HB.out))))
              (case aL => have := LMc18.out; omega)
              intro v286 w21 ho hb hg hat
              rw [← Ny285.out] at ho
              have n0_ := Aside0.mk (Kd.R_over' (by (with_reducible repeat (first | apply Kd.R_alloc | apply Kd.R_drewN | apply Kd.R_drew)); exact HO_281000.out) (Kd.S_typed (by (with_reducible repeat (first | apply Kd.S_alloc | apply Kd.S_drewN | apply Kd.S_drew)); exact HO_281001.out)) (by decide) hg)
              have n1_ := Aside0.mk (blk_grown (g := gb275) (o := .cells #[.slice A0_0 l0_0.length c0_0, .slice (some ad281) l0_1.length c0_1] 56 (0, 0)) (by (with_reducible repeat (first | refine blk_drewN ?_ _ | refine blk_drew ?_ | refine blk_alloc ?_ _)); exact BK275.out) hg (Kd.S_ne HO_281001.out BK275.out (by decide)))
              have n2_ := Aside0.mk (blk_grown (g := gb276) (o := .cells #[.slice none 0 0, .slice none 0 0] 56 (0, 0)) (by (with_reducible repeat (first | refine blk_drewN ?_ _ | refine blk_drew ?_ | refine blk_alloc ?_ _)); exact BK276.out) hg (Kd.S_ne HO_281001.out BK276.out (by decide)))
              have n3_ := Aside0.mk (blk_grown (g := gb280) (o := .cells #[.slice Ao8 t277.length co8, u281001] 56 (0, 0)) (by (with_reducible repeat (first | refine blk_drewN ?_ _ | refine blk_drew ?_ | refine blk_alloc ?_ _)); exact BK280.out) hg (Kd.S_ne HO_281001.out BK280.out (by decide)))
              have n4_ := Aside0.mk (hb)
              have n5_ := Aside0.mk (ho)
              clear HO_281000
              clear BK275
              clear BK276
              clear BK280
              clear HB
              clear HO_281001
              clear HO284
              have HO_281000 := n0_
              have BK275 := n1_
              have BK276 := n2_
              have BK280 := n3_
              have HB := n4_
              have HO287 := n5_
              clear n0_ n1_ n2_ n3_ n4_ n5_
              clear ho hb hg hat
              obtain ⟨Ao23, co23, eo23⟩ := Kd.S_slice HO287.out
              (first | subst eo23 | (injection eo23 with f1_ f2_ f3_; have f4_ := f1_.symm; have f5_ := f3_.symm; clear f1_ f2_ f3_; subst f4_; subst f5_))
              refine hK.out _ _ ⟨(blk_cell BK280.out 0).trans rfl, (blk_cell BK280.out 1).trans rfl⟩ (fun hHeld => ?_)
              clear hK K
              refine norm_ (a' := ?_) ?_ ?_
              rotate_left
              · show Act.put _ (some 22) _ = _
                simp only [Act.put, List.setIfInBounds_toArray, List.set_cons_zero, List.set_cons_succ, i64_w, i32_w]
                rfl
              refine pure_ (i := 6) (N := some 23) (v := ?_) (a' := ?_) #[true, true, true, true, true, true, true, false] rfl rfl (any_of HT_.out (by kernel_rfl)) (fun _ _ _ h => h) (Or.inl ⟨by rfl, ?_⟩) ?_ ?_
              rotate_left
              · intro w'
                go_simp
                with_reducible rfl
              rotate_left
              · simp only [Act.put, List.setIfInBounds_toArray, List.set_cons_zero, List.set_cons_succ, i64_w, i32_w]
                rfl
              refine last_ (i := 7) (N := none) #[true, true, true, true, true, true, true, true] rfl rfl (one_of HT_.out (by kernel_rfl)) (by decide) (fun K hK => ?_)
              have hs24 : w21.cell? ⟨gb280, 1, none⟩ = some (u281001) := (blk_cell BK280.out 1).trans rfl
              have hfs24 := blk_frozen BK280.out 1
              have hns24_0 := NB275_280.out
              have hns24_1 := NB276_280.out
              have hms24_0 := NB280_275.out
              have hms24_1 := NB280_276.out
              refine skip_ (w1 := ?_) (by rfl) rfl ?_ ?_
              rotate_left
              · go_simp
                rfl
              refine hK.out _ _ ?_
              clear hK K
              refine done_ (done_of HT_.out (by kernel_rfl)) ?_
              try go_wp2
              go_roundg k1
              case measure => have := HK1.out; omega
              case rel => exact ⟨(wrap64 (x13_1 + 1)), (y285), (.slice Ao23 y285.length co23), (by first | rfl | (simp; done) | (simp [*]; done)), H', ⟨by have := HK1.out; omega⟩, ⟨by (with_reducible repeat (first | apply Kd.R_alloc | apply Kd.R_drewN | apply Kd.R_drew)); exact Kd.R_mono (Kd.R_far (p := ⟨gb280, 1, none⟩) (Kd.R_types HO_281000.out BK280.out (by decide)) (fun _ hk => hk.2) (.slice Ao23 y285.length co23)) (fun _ hk => trivial)⟩, ⟨by (with_reducible repeat (first | apply Kd.S_alloc | apply Kd.S_drewN | apply Kd.S_drew)); exact Kd.S_mono (Kd.S_far (p := ⟨gb280, 1, none⟩) (Kd.S_types HO287.out BK280.out (by decide)) (fun _ hk => hk.2) (.slice Ao23 y285.length co23)) (fun _ hk => hk.1)⟩, ⟨by (with_reducible repeat (first | refine blk_drewN ?_ _ | refine blk_drew ?_ | refine blk_alloc ?_ _)); refine blk_far ?_ NB275_280.out _; (with_reducible repeat (first | refine blk_drewN ?_ _ | refine blk_drew ?_ | refine blk_alloc ?_ _)); exact BK275.out⟩, ⟨by (with_reducible repeat (first | refine blk_drewN ?_ _ | refine blk_drew ?_ | refine blk_alloc ?_ _)); refine blk_far ?_ NB276_280.out _; (with_reducible repeat (first | refine blk_drewN ?_ _ | refine blk_drew ?_ | refine blk_alloc ?_ _)); exact BK276.out⟩, ⟨by (with_reducible repeat (first | refine blk_drewN ?_ _ | refine blk_drew ?_ | refine blk_alloc ?_ _)); refine blk_put (cs := #[.slice Ao8 t277.length co8, u281001]) ?_ 1 _ rfl; (with_reducible repeat (first | refine blk_drewN ?_ _ | refine blk_drew ?_ | refine blk_alloc ?_ _)); exact BK280.out⟩, ⟨by repeat (first | (with_reducible first | exact HB.out | apply below_alloc | apply pw_below_drewN | apply below_drew1 | refine below_set ?_ GE275.out | refine below_set ?_ GE276.out | refine below_set ?_ GE280.out) | exact HB.out)⟩⟩
            · rw [if_neg c18] at H
              exact absurd H (by simp)
          · rw [if_neg c16] at H
            exact absurd H (by simp)
        · rw [if_neg c15] at H
          exact absurd H (by simp)
      · rw [if_neg c14] at H
        have c14b0 : decide (x13_1 < (l0_1.length : Int)) = false := decide_eq_false c14
        clear c14
        simp only [Option.some.injEq, Prod.mk.injEq] at H
        obtain ⟨rfl, rfl⟩ := H
        have hnb25 := NB280_275.out
        have hnc25 := NB275_280.out
        have hnb26 := NB280_276.out
        have hnc26 := NB276_280.out
        have hcz27_0 : wr.cell? ⟨gb280, 0, none⟩ = some (.slice Ao8 t277.length co8) := (blk_cell BK280.out 0).trans rfl
        have hcz27_1 : wr.cell? ⟨gb280, 1, none⟩ = some (u281001) := (blk_cell BK280.out 1).trans rfl
        have hfz27_0 := blk_frozen BK280.out 0
        have hfz27_1 := blk_frozen BK280.out 1
        have hnb28 := NB276_275.out
        have hnc28 := NB275_276.out
        have hcz29_0 : wr.cell? ⟨gb276, 0, none⟩ = some (.slice none 0 0) := (blk_cell BK276.out 0).trans rfl
        have hcz29_1 : wr.cell? ⟨gb276, 1, none⟩ = some (.slice none 0 0) := (blk_cell BK276.out 1).trans rfl
        have hfz29_0 := blk_frozen BK276.out 0
        have hfz29_1 := blk_frozen BK276.out 1
        obtain ⟨Ao30, co30, eo30⟩ := Kd.S_slice HO_281001.out
        subst eo30
        go_wp2
        refine bodyPost_ret (results_cell_row rfl _ _ gb276 56 #[.slice Ao8 t277.length co8, .slice Ao30 x281001_1.length co30] (0, 0) _ rfl (by (with_reducible repeat (first | refine blk_drewN ?_ _ | refine blk_drew ?_ | refine blk_alloc ?_ _)); refine blk_put (cs := #[.slice Ao8 t277.length co8, .slice none 0 0]) ?_ 1 _ rfl; (with_reducible repeat (first | refine blk_drewN ?_ _ | refine blk_drew ?_ | refine blk_alloc ?_ _)); refine blk_put (cs := #[.slice none 0 0, .slice none 0 0]) ?_ 0 _ rfl; (with_reducible repeat (first | refine blk_drewN ?_ _ | refine blk_drew ?_ | refine blk_alloc ?_ _)); exact BK276.out) Tryd.underlying56 rfl (by kernel_rfl)) rfl ?_
        exact ⟨_, _, by first | rfl | (simp [errW_none, errW_some] <;> rfl) | (simp [*, errW_none, errW_some] <;> rfl), by (with_reducible repeat (first | apply Kd.R_alloc | apply Kd.R_drewN | apply Kd.R_drew)); exact Kd.R_mono (Kd.R_far (p := ⟨gb276, 1, none⟩) (Kd.R_far (p := ⟨gb276, 0, none⟩) (Kd.R_types HO_281000.out BK276.out (by decide)) (fun _ hk => hk.2) (.slice Ao8 t277.length co8)) (fun _ hk => hk.2) (.slice Ao30 x281001_1.length co30)) (fun _ hk => trivial), by (with_reducible repeat (first | apply Kd.S_alloc | apply Kd.S_drewN | apply Kd.S_drew)); exact Kd.S_mono (Kd.S_far (p := ⟨gb276, 1, none⟩) (Kd.S_far (p := ⟨gb276, 0, none⟩) (Kd.S_types HO_281001.out BK276.out (by decide)) (fun _ hk => hk.2) (.slice Ao8 t277.length co8)) (fun _ hk => hk.2) (.slice Ao30 x281001_1.length co30)) (fun _ hk => hk.1), by repeat (first | (with_reducible first | exact HB.out | apply below_alloc | apply pw_below_drewN | apply below_drew1 | refine below_set ?_ GE275.out | refine below_set ?_ GE276.out | refine below_set ?_ GE280.out) | exact HB.out)⟩
def impl_grow.RowsAt (w : World) (B gR : Nat) (T : Nat → Prop) (rows : List (List Int)) : Prop :=
  T gR ∧ B ≤ gR ∧ ∃ vs : List Value, vs.length = rows.length ∧ w.heap[gR]? = some (.cells vs.toArray 22 (0, 0)) ∧
    (∀ (i : Nat) (v : Value) (xs : List Int), vs[i]? = some v → rows[i]? = some xs → w.ownsRow B 3 1 v xs.length (nums .i64 xs) ∧ ∀ k, v.ownBlock = some k → T k ∧ k ≠ gR) ∧
    ∀ (i j : Nat) (v u : Value), i ≠ j → vs[i]? = some v → vs[j]? = some u → ∀ k, v.ownBlock = some k → u.ownBlock ≠ some k
theorem impl_grow.RowsAt.lt {w : World} {B gR : Nat} {T : Nat → Prop} {rows : List (List Int)} (h : impl_grow.RowsAt w B gR T rows) : gR < w.heap.size := by
  obtain ⟨_, _, vs, _, hh, _⟩ := h
  exact blk_lt hh
theorem impl_grow.RowsAt.keep {w w' : World} {B gR : Nat} {T T' : Nat → Prop} {rows : List (List Int)} (h : impl_grow.RowsAt w B gR T rows) (hm : ∀ k, T k → k < w.heap.size → w'.heap[k]? = w.heap[k]?) (hT : ∀ k, T k → k < w.heap.size → T' k) : impl_grow.RowsAt w' B gR T' rows := by
  have hlt := h.lt
  obtain ⟨h1, h2, vs, hl, hh, hr, hd⟩ := h
  refine ⟨hT _ h1 hlt, h2, vs, hl, (hm _ h1 hlt).trans hh, fun i v xs hv hx => ?_, hd⟩
  obtain ⟨ho, hb⟩ := hr i v xs hv hx
  exact ⟨own_move ho (fun k hk => hm k (hb k hk).1 (own_lt ho k hk)), fun k hk => ⟨hT k (hb k hk).1 (own_lt ho k hk), (hb k hk).2⟩⟩
theorem impl_grow.RowsAt.kept {w w' : World} {B gR : Nat} {T S : Nat → Prop} {rows : List (List Int)} (h : impl_grow.RowsAt w B gR T rows) (hk : Kept w w' S) (hne : ∀ k, T k → ¬ S k) : impl_grow.RowsAt w' B gR T rows :=
  h.keep (fun k hT hlt => hk.2 k hlt (hne k hT)) (fun _ hk _ => hk)
theorem impl_grow.RowsAt.row {w : World} {B gR : Nat} {T : Nat → Prop} {rows : List (List Int)} (h : impl_grow.RowsAt w B gR T rows) (i : Nat) (hi : i < rows.length) :
    ∃ A c, w.cell? ⟨gR, i, none⟩ = some (.slice A (rows.getD i []).length c) ∧ w.ownsRow B 3 1 (.slice A (rows.getD i []).length c) (rows.getD i []).length (nums .i64 (rows.getD i [])) ∧ ∀ k, (Value.slice A (rows.getD i []).length c).ownBlock = some k → T k ∧ k ≠ gR := by
  obtain ⟨h1, h2, vs, hl, hh, hr, hd⟩ := h
  have hiv : i < vs.length := by omega
  have hx : rows[i]? = some (rows.getD i []) := by simp [List.getD, hi]
  obtain ⟨ho, hb⟩ := hr i vs[i] _ (List.getElem?_eq_getElem hiv) hx
  have hc : w.cell? ⟨gR, i, none⟩ = some vs[i] := by rw [blk_cell hh i]; simp [hiv]
  rcases ho.2 with ⟨e, hn⟩ | ⟨g, cap, cur, e, r⟩
  · rw [e] at ho hb hc
    exact ⟨none, 0, by rw [hc, hn], by rw [hn] at ho ⊢; exact ho, by simp [Value.ownBlock]⟩
  · rw [e] at ho hb hc
    exact ⟨some ⟨g, 0, none⟩, cap, hc, ho, hb⟩
theorem impl_grow.own_reads {w : World} {B n c : Nat} {A : Option Addr} {e : Nat} {xs : List Int} (h : w.ownsRow B e 1 (.slice A n c) n (nums .i64 xs)) (hn : xs.length = n) : n ≤ c ∧ Kd.C (Kd.int .i64) w A n xs := by
  subst hn
  have hR : Kd.R (Kd.int .i64) e w B (fun _ => True) (.slice A xs.length c) xs := Kd.R_of_own h (fun _ _ => trivial)
  obtain ⟨_, h2, h3⟩ := Kd.R_reads' hR
  exact ⟨h2, h3⟩
theorem impl_grow.RowsAt.reads {w : World} {B gR : Nat} {T : Nat → Prop} {rows : List (List Int)} (h : impl_grow.RowsAt w B gR T rows) (hm : rows.length ≤ 9223372036854775807) : Kd.C (Kd.slice 3 (Kd.int .i64)) w (some ⟨gR, 0, none⟩) rows.length rows := by
  refine ⟨rfl, hm, fun _ => ⟨_, rfl, fun j p hj => ?_⟩⟩
  have hjl : j < rows.length := (List.getElem?_eq_some_iff.1 hj).1
  obtain ⟨A, c, hc, ho, _⟩ := h.row j hjl
  have hp : rows.getD j [] = p := by simp [List.getD, hj]
  rw [hp] at hc ho
  obtain ⟨hlc, hC⟩ := impl_grow.own_reads ho rfl
  refine ⟨[.slice A p.length c], rfl, ⟨A, c, rfl, hlc, hC⟩, fun i u hu => ?_⟩
  match i, hu with
  | 0, hu =>
    obtain rfl : _ = u := by simpa using hu
    have e : (⟨gR, 0, none⟩ : Addr).add (j * 1 + 0) = ⟨gR, j, none⟩ := by
      unfold Addr.add
      split <;> simp_all
    show w.cell? ((⟨gR, 0, none⟩ : Addr).add (j * 1 + 0)) = _
    rw [e]
    exact hc
theorem impl_grow.RowsAt.put {w w1 : World} {B gR : Nat} {T : Nat → Prop} {rows : List (List Int)} (h : impl_grow.RowsAt w B gR T rows) (hlt : ∀ k, T k → k < w.heap.size) (i : Nat) (hi : i < rows.length) {v v1 : Value} {ys : List Int}
    (hc : w.cell? ⟨gR, i, none⟩ = some v) (hm : ∀ k, T k → some k ≠ v.ownBlock → w1.heap[k]? = w.heap[k]?) (ho : w1.ownsRow B 3 1 v1 ys.length (nums .i64 ys))
    (hat : v1.ownBlock = v.ownBlock ∨ ∃ b, v1.ownBlock = some b ∧ w.heap.size ≤ b) :
    impl_grow.RowsAt (w1.setCell ⟨gR, i, none⟩ v1) B gR (fun k => T k ∨ w.heap.size ≤ k) (rows.set i ys) := by
  have hgR := h.lt
  obtain ⟨h1, h2, vs, hl, hh, hr, hd⟩ := h
  have hiv : i < vs.length := by omega
  have hv : vs[i]? = some v := by rw [blk_cell hh i] at hc; simpa using hc
  have hx : rows[i]? = some rows[i] := List.getElem?_eq_getElem hi
  obtain ⟨ho0, hb0⟩ := hr i v _ hv hx
  have hgv : some gR ≠ v.ownBlock := fun e => (hb0 gR e.symm).2 rfl
  have hh1 : w1.heap[gR]? = some (.cells vs.toArray 22 (0, 0)) := (hm gR h1 hgv).trans hh
  have hb1 : ∀ k, v1.ownBlock = some k → (T k ∨ w.heap.size ≤ k) ∧ k ≠ gR := by
    intro k hk
    rcases hat with e | ⟨b, e, hb⟩
    · exact ⟨.inl (hb0 k (e ▸ hk)).1, (hb0 k (e ▸ hk)).2⟩
    · obtain rfl : b = k := by rw [e] at hk; exact Option.some.inj hk
      exact ⟨.inr hb, by omega⟩
  refine ⟨.inl h1, h2, vs.set i v1, by simp [hl], ?_, ?_, ?_⟩
  · have := blk_set hh1 i v1
    rw [this]
    simp
  · intro j u xs hu hxs
    by_cases hij : i = j
    · subst hij
      rw [List.getElem?_set_self hiv] at hu
      rw [List.getElem?_set_self hi] at hxs
      obtain rfl := Option.some.inj hu
      obtain rfl := Option.some.inj hxs
      exact ⟨ownsRow_setCell_other ho (fun e => (hb1 _ e).2 rfl) _, hb1⟩
    · rw [List.getElem?_set_ne hij] at hu hxs
      obtain ⟨ho', hb'⟩ := hr j u xs hu hxs
      have hne : ∀ k, u.ownBlock = some k → some k ≠ v.ownBlock := fun k hk e => hd i j v u hij hv hu k e.symm hk
      exact ⟨ownsRow_setCell_other (own_move ho' (fun k hk => hm k (hb' k hk).1 (hne k hk))) (fun e => (hb' _ e).2 rfl) _, fun k hk => ⟨.inl (hb' k hk).1, (hb' k hk).2⟩⟩
  · intro a b u1 u2 hab ha hb k hk
    have key : ∀ c u, c ≠ i → vs[c]? = some u → ∀ k, u.ownBlock = some k → v1.ownBlock ≠ some k := by
      intro c u hc hu k hk e
      rcases hat with e2 | ⟨b, e2, hb⟩
      · exact hd c i u v hc hu hv k hk (e2 ▸ e)
      · obtain rfl : b = k := by rw [e2] at e; exact Option.some.inj e
        have hcl : c < rows.length := by have := (List.getElem?_eq_some_iff.1 hu).1; omega
        have := hlt _ ((hr c u _ hu (List.getElem?_eq_getElem hcl)).2 _ hk).1
        omega
    by_cases hia : i = a
    · subst hia
      rw [List.getElem?_set_self hiv] at ha
      obtain rfl := Option.some.inj ha
      rw [List.getElem?_set_ne hab] at hb
      exact fun e => key b u2 (Ne.symm hab) hb k e hk
    · rw [List.getElem?_set_ne hia] at ha
      by_cases hib : i = b
      · subst hib
        rw [List.getElem?_set_self hiv] at hb
        obtain rfl := Option.some.inj hb
        exact key a u1 (Ne.symm hia) ha k hk
      · rw [List.getElem?_set_ne hib] at hb
        exact hd a b u1 u2 hab ha hb k hk
def impl_grow.Mg (go : Nat) (T O : Nat → Prop) (k : Nat) : Prop := T k ∨ O k ∨ k = go
structure impl_grow.St (w : World) (B go gR : Nat) (T O : Nat → Prop) (rows : List (List Int)) (ts : List S56) : Prop where
  rowsAt : impl_grow.RowsAt w B gR T rows
  out : ∃ v, w.heap[go]? = some (.cells #[v] 70 (0, 0)) ∧ Kd.S k56 56 w B O v ts
  dis : ∀ k, T k → ¬ O k
  goT : ¬ T go
  goO : ¬ O go
  hB : B ≤ go
  lt : ∀ k, T k ∨ O k → k < w.heap.size
  made : ∀ v, w.heap[go]? = some (.cells #[v] 70 (0, 0)) → v.ownBlock ≠ none
def impl_grow.Done (w w' : World) (B go gR : Nat) (T O : Nat → Prop) (rows : List (List Int)) (ts : List S56) : Prop :=
  ∃ T' O' : Nat → Prop, impl_grow.St w' B go gR T' O' rows ts ∧ Kept w w' (impl_grow.Mg go T O) ∧ (∀ k, impl_grow.Mg go T' O' k → impl_grow.Mg go T O k ∨ w.heap.size ≤ k) ∧ Below B w w'
theorem impl_grow.St.mlt {w : World} {B go gR : Nat} {T O : Nat → Prop} {rows : List (List Int)} {ts : List S56} (h : impl_grow.St w B go gR T O rows ts) : ∀ k, impl_grow.Mg go T O k → k < w.heap.size := by
  rintro k (hk | hk | rfl)
  · exact h.lt k (.inl hk)
  · exact h.lt k (.inr hk)
  · obtain ⟨v, hv, _⟩ := h.out; exact blk_lt hv
theorem impl_grow.St.kept {w w' : World} {B go gR : Nat} {T O S : Nat → Prop} {rows : List (List Int)} {ts : List S56} (h : impl_grow.St w B go gR T O rows ts) (hk : Kept w w' S) (hne : ∀ k, impl_grow.Mg go T O k → ¬ S k) : impl_grow.St w' B go gR T O rows ts where
  rowsAt := h.rowsAt.kept hk (fun k hT => hne k (.inl hT))
  out := by
    obtain ⟨v, hv, hS⟩ := h.out
    exact ⟨v, blk_kept hv hk (hne go (.inr (.inr rfl))), Kd.S_kept hS hk (fun k hO => hne k (.inr (.inl hO)))⟩
  dis := h.dis
  goT := h.goT
  goO := h.goO
  hB := h.hB
  lt := fun k hk' => Nat.lt_of_lt_of_le (h.lt k hk') hk.1
  made := fun v hv => by
    obtain ⟨u, hu, _⟩ := h.out
    have h2 := blk_kept hu hk (hne go (.inr (.inr rfl)))
    rw [h2] at hv
    obtain rfl : u = v := by simpa using hv
    exact h.made u hu
theorem impl_grow.St.below {w w' : World} {B go gR : Nat} {T O : Nat → Prop} {rows : List (List Int)} {ts : List S56} (h : impl_grow.St w B go gR T O rows ts) (hb : Below w.heap.size w w') : impl_grow.St w' B go gR T O rows ts :=
  h.kept (Kept.of_below hb (fun _ => False)) (fun _ _ h => h)
theorem impl_grow.Done.refl {w : World} {B go gR : Nat} {T O : Nat → Prop} {rows : List (List Int)} {ts : List S56} (h : impl_grow.St w B go gR T O rows ts) : impl_grow.Done w w B go gR T O rows ts :=
  ⟨T, O, h, Kept.refl _ _, fun _ hk => .inl hk, Below.refl _ _⟩
theorem impl_grow.Done.from_ {w w1 w2 : World} {B go gR : Nat} {T O T1 O1 : Nat → Prop} {rows : List (List Int)} {ts : List S56} (hk : Kept w w1 (impl_grow.Mg go T O)) (hM : ∀ k, impl_grow.Mg go T1 O1 k → impl_grow.Mg go T O k ∨ w.heap.size ≤ k) (hb : Below B w w1)
    (h : impl_grow.Done w1 w2 B go gR T1 O1 rows ts) : impl_grow.Done w w2 B go gR T O rows ts := by
  obtain ⟨T2, O2, hst, hk2, hM2, hb2⟩ := h
  refine ⟨T2, O2, hst, hk.then_ hk2 hM, fun k hk3 => ?_, hb.trans hb2⟩
  rcases hM2 k hk3 with h | h
  · exact hM k h
  · exact .inr (Nat.le_trans hk.1 h)
theorem impl_grow.St.put {w w1 : World} {B go gR : Nat} {T O : Nat → Prop} {rows : List (List Int)} {ts : List S56} (h : impl_grow.St w B go gR T O rows ts) (i : Nat) (hi : i < rows.length) {v v1 : Value} {ys : List Int}
    (hc : w.cell? ⟨gR, i, none⟩ = some v) (hT : ∀ k, v.ownBlock = some k → T k) (hg : w.grownBy w1 v.ownBlock) (hb : Below B w w1) (ho : w1.ownsRow B 3 1 v1 ys.length (nums .i64 ys))
    (hat : v1.ownBlock = v.ownBlock ∨ ∃ b, v1.ownBlock = some b ∧ w.heap.size ≤ b) :
    ∃ T', impl_grow.St (w1.setCell ⟨gR, i, none⟩ v1) B go gR T' O (rows.set i ys) ts ∧ Kept w (w1.setCell ⟨gR, i, none⟩ v1) (impl_grow.Mg go T O) ∧ (∀ k, impl_grow.Mg go T' O k → impl_grow.Mg go T O k ∨ w.heap.size ≤ k) ∧ Below B w (w1.setCell ⟨gR, i, none⟩ v1) := by
  have hr := h.rowsAt.put (fun k hk => h.lt k (.inl hk)) i hi hc (fun k hk hne => hg.block k (h.lt k (.inl hk)) hne) ho hat
  have hTg := h.rowsAt.1
  have hk1 : Kept w w1 (impl_grow.Mg go T O) := Kept.of_grown hg (Kept.refl _ _) (fun k hk => .inl (.inl (hT k hk)))
  have hk2 : Kept w (w1.setCell ⟨gR, i, none⟩ v1) (impl_grow.Mg go T O) := hk1.setCell (.inl (.inl hTg)) _
  have hkT : Kept w (w1.setCell ⟨gR, i, none⟩ v1) T := (Kept.of_grown hg (Kept.refl _ T) (fun k hk => .inl (hT k hk))).setCell (.inl hTg) _
  refine ⟨fun k => (T k ∨ w.heap.size ≤ k) ∧ k < (w1.setCell ⟨gR, i, none⟩ v1).heap.size, ⟨hr.keep (fun _ _ _ => rfl) (fun k hk hlt => ⟨hk, hlt⟩), ?_, ?_, ?_, h.goO, h.hB, ?_, ?_⟩, hk2, ?_, hb.setCell h.rowsAt.2.1 _⟩
  · obtain ⟨u, hu, hS⟩ := h.out
    exact ⟨u, blk_kept hu hkT h.goT, Kd.S_kept hS hkT (fun k hO hT' => h.dis k hT' hO)⟩
  · rintro k ⟨hk | hk, _⟩ hO
    · exact h.dis k hk hO
    · have := h.lt k (.inr hO); omega
  · rintro ⟨hk | hk, _⟩
    · exact h.goT hk
    · have := h.mlt go (.inr (.inr rfl)); omega
  · rintro k (hk | hk)
    · exact hk.2
    · exact Nat.lt_of_lt_of_le (h.lt k (.inr hk)) hk2.1
  · intro u hu
    obtain ⟨v, hv, _⟩ := h.out
    have h2 := blk_kept hv hkT h.goT
    rw [h2] at hu
    obtain rfl : v = u := by simpa using hu
    exact h.made v hv
  · rintro k (hk | hk | hk)
    · rcases hk.1 with hk | hk
      · exact .inl (.inl hk)
      · exact .inr hk
    · exact .inl (.inr (.inl hk))
    · exact .inl (.inr (.inr hk))
def impl_grow.Reads (w : World) (S : Nat → Prop) (A : Option Addr) (l : List Int) : Prop := ∀ W, Kept w W S → Kd.C (Kd.int .i64) W A l.length l
theorem impl_grow.Reads.to {w w' : World} {S S' : Nat → Prop} {A : Option Addr} {l : List Int} (h : impl_grow.Reads w S A l) (hk : Kept w w' S) (hs : ∀ k, S' k → S k ∨ w.heap.size ≤ k) : impl_grow.Reads w' S' A l := fun W hW => h W (hk.then_ hW hs)
def impl_grow.total (ws : List Int) : Nat := (ws.map Int.toNat).sum
def impl_grow.Ok (B go gR : Nat) (outer inner : List Int) (Ao Ai At : Option Addr) (co ci ct : Nat) (ws : List Int) : Prop :=
  ∀ (k : Int) (rows : List (List Int)) (ts : List S56) (T O : Nat → Prop) (w : World) (Aw : Option Addr) (cw : Nat), impl_grow.St w B go gR T O rows ts → rows.length = outer.length → (∀ r ∈ rows, r.length + impl_grow.total ws ≤ 1000) → 0 ≤ k → k + (ws.length : Int) ≤ 1000 →
    ts.length + (Gr.growL outer inner ws rows k).length < 2000000000 →
    impl_grow.Reads w (impl_grow.Mg go T O) Ao outer → impl_grow.Reads w (impl_grow.Mg go T O) Ai inner → impl_grow.Reads w (impl_grow.Mg go T O) At inner → impl_grow.Reads w (impl_grow.Mg go T O) Aw ws → ws.length ≤ cw →
    Calls Tryd.prog 137 #[.agg #[.slice Ao outer.length co, .slice Ai inner.length ci], .agg #[.slice At inner.length ct, .slice (some ⟨gR, 0, none⟩) outer.length outer.length], .int .i64 k, .slice Aw ws.length cw, .func (.func 138) #[] #[.pointer (some ⟨go, 0, none⟩)]] w
      fun e w' => e = .returned (.tuple #[]) ∧ impl_grow.Done w w' B go gR T O rows (ts ++ (Gr.growL outer inner ws rows k).map (fun r => ⟨inner, r⟩))
structure impl_grow.Boxes (w : World) (S : Nat → Prop) (go gR : Nat) (outer inner : List Int) (Ao Ai At : Option Addr) (co ci ct : Nat) (k : Int) (Aw : Option Addr) (nw cw : Nat) (bs bt bk bw be bp : Nat) : Prop where
  hs : w.heap[bs]? = some (.cells #[.slice Ao outer.length co, .slice Ai inner.length ci] 38 (0, 0))
  ht : w.heap[bt]? = some (.cells #[.slice At inner.length ct, .slice (some ⟨gR, 0, none⟩) outer.length outer.length] 56 (0, 0))
  hk : w.heap[bk]? = some (.cells #[.int .i64 k] 3 (0, 0))
  hw : w.heap[bw]? = some (.cells #[.slice Aw nw cw] 22 (0, 0))
  he : w.heap[be]? = some (.cells #[.func (.func 138) #[] #[.pointer (some ⟨go, 0, none⟩)]] 129 (0, 0))
  hp : w.heap[bp]? = some (.cells #[.func (.func 160) #[] #[.pointer (some ⟨bs, 0, none⟩), .pointer (some ⟨bt, 0, none⟩), .pointer (some ⟨bk, 0, none⟩), .pointer (some ⟨bw, 0, none⟩), .pointer (some ⟨be, 0, none⟩), .pointer (some ⟨bp, 0, none⟩)]] 149 (0, 0))
  hns : ¬ S bs
  hnt : ¬ S bt
  hnk : ¬ S bk
  hnw : ¬ S bw
  hne : ¬ S be
  hnp : ¬ S bp
theorem impl_grow.Boxes.to {w w' : World} {S S' : Nat → Prop} {go gR : Nat} {outer inner : List Int} {Ao Ai At : Option Addr} {co ci ct : Nat} {k : Int} {Aw : Option Addr} {nw cw bs bt bk bw be bp : Nat} (h : impl_grow.Boxes w S go gR outer inner Ao Ai At co ci ct k Aw nw cw bs bt bk bw be bp)
    (hk : Kept w w' S) (hs : ∀ k, S' k → S k ∨ w.heap.size ≤ k) : impl_grow.Boxes w' S' go gR outer inner Ao Ai At co ci ct k Aw nw cw bs bt bk bw be bp := by
  have key : ∀ {b : Nat} {o : Obj}, w.heap[b]? = some o → ¬ S b → ¬ S' b := fun hb hn h' => by
    rcases hs _ h' with h' | h'
    · exact hn h'
    · have := blk_lt hb; omega
  exact ⟨blk_kept h.hs hk h.hns, blk_kept h.ht hk h.hnt, blk_kept h.hk hk h.hnk, blk_kept h.hw hk h.hnw, blk_kept h.he hk h.hne, blk_kept h.hp hk h.hnp, key h.hs h.hns, key h.ht h.hnt, key h.hk h.hnk, key h.hw h.hnw, key h.he h.hne, key h.hp h.hnp⟩
set_option maxHeartbeats 2000000 in
set_option maxRecDepth 100000 in
theorem impl_tableaux_1.calls (B N0 go : Nat) (O : Nat → Prop) (v v0 v1 : Value) (ts : List S56) (x : S56) (w : World)
    (hcell : w.heap[go]? = some (.cells #[v] 70 (0, 0))) (hgo : go < N0) (hBg : B ≤ go) (hN : N0 ≤ w.heap.size) (hOg : ¬ O go)
    (hO : Kd.S k56 56 w B (fun k => O k ∧ k < N0) v ts) (hl : ts.length < 2000000000)
    (h0 : Kd.R (Kd.int .i64) 3 w N0 (fun _ => True) v0 x.f0) (h1 : Kd.R (Kd.slice 3 (Kd.int .i64)) 22 w N0 (fun _ => True) v1 x.f1) :
    Calls Tryd.prog 138 #[.agg #[v0, v1], .pointer (some ⟨go, 0, none⟩)] w fun e w' => e = .returned (.tuple #[]) ∧ ∃ v', w'.heap[go]? = some (.cells #[v'] 70 (0, 0)) ∧ Kd.S k56 56 w' B (fun k => (O k ∨ N0 ≤ k) ∧ k ≠ go) v' (ts ++ [x]) ∧ Kept w w' (fun k => O k ∨ k = go) ∧ Below B w w' := by
  have hinfo : (Tryd.prog.info? 56).map (fun i => (i.zero, i.size, i.bytes)) = some (some (.agg #[.slice none 0 0, .slice none 0 0]), 2, 48) := by kernel_rfl
  have HI := Aside0.mk hinfo
  clear hinfo
  have hu56 := Tryd.underlying56
  have HO := Aside0.mk hO
  have HC := Aside0.mk hcell
  have H0 := Aside0.mk h0
  have H1 := Aside0.mk h1
  have HL := Aside0.mk hl
  have HN := Aside0.mk (And.intro hgo (And.intro hBg (And.intro hN hOg)))
  clear hO hcell h0 h1 hl hgo hBg hN hOg
  go_enter Tryd.func138, Tryd.ntmps138
  go_wp2_with (first
    | ((with_reducible refine gate_dst (N := 2) rfl ?_); refine box_event ?hg (N := 2) ?hd (cs := #[v0, v1]) (t := 56) ?hr ?_; (case hd => rfl); (case hg => rfl); (case hr => first | (go_simp; done) | (go_simp; rfl)); intro gb hgb w3 hbox hb; have hv := (blk_cell (blk_below HC.out hb) 0).trans rfl; have hb0 := (blk_cell hbox 0).trans rfl; have hb1 := (blk_cell hbox 1).trans rfl; have HB3 := Aside0.mk hb; clear hb hbox hgb)
    | ((with_reducible refine gate_builtin (b := .append) (xs := #[.tmp 3, .tmp 5]) rfl ?_); at_builtin; refine Kd.S_append k56 (w0 := w) B rfl (.tmp 3) (.tmp 5) 70 56 _ 48 rfl Tryd.underlying70 HI.out rfl (by decide) (by omega) v ts x [v0, v1] (fun k => (O k ∨ N0 ≤ k) ∧ k ≠ go) (fun k => N0 ≤ k) rfl rfl ?aM ?aK ?aF ?aO ?aB ?aS ?aL ?_; (case aM => exact k56_mkM _ _ _ x (Kd.R_lower (Kd.R_mono (Kd.R_bound (Kd.R_below H0.out HB3.out)) (fun k hk => hk.2.1)) (by have := HN.out; omega)) (Kd.R_lower (Kd.R_mono (Kd.R_bound (Kd.R_below H1.out HB3.out)) (fun k hk => hk.2.1)) (by have := HN.out; omega))); (case aK => exact fun k hk => ⟨⟨.inr hk, by have := HN.out; omega⟩, fun e => by have := ((Kd.S_R HO.out).1 k e.symm).2; omega⟩); (case aF => exact fun k hk => ⟨.inr (by have := HN.out; have := HB3.out.size; omega), by have := HN.out; have := HB3.out.size; omega⟩); (case aO => exact Kd.S_mono (Kd.S_below HO.out HB3.out) (fun k hk => ⟨⟨.inl hk.1, fun e => HN.out.2.2.2 (e ▸ hk.1)⟩, by have := hk.2; omega⟩)); (case aB => exact HB3.out.mono (by have := HN.out; omega)); (case aS => have := HN.out; have := HB3.out.size; omega); (case aL => have := HL.out; simp; omega); intro v5 w5 hS5 hB5 hg5 hat5; have HS5 := Aside0.mk hS5; have HB5 := Aside0.mk hB5; have HG5 := Aside0.mk hg5; clear hS5 hB5 hg5 hat5; have hb5 := blk_grown (blk_below HC.out HB3.out) HG5.out (fun e => HN.out.2.2.2 ((Kd.S_R HO.out).1 _ e.symm).1); have hcc5 := (blk_cell hb5 0).trans rfl; have hff5 := blk_frozen hb5 0; have BK5 := Aside0.mk hb5; clear hb5; obtain ⟨A5, n5, c5, hv5⟩ : ∃ A n c, v5 = .slice A n c := (by obtain ⟨A, c, h⟩ := Kd.S_slice HS5.out; exact ⟨A, _, c, h⟩); subst hv5))
  go_end0
  exact ⟨rfl, _, one_setCell BK5.out, Kd.S_far (p := ⟨go, 0, none⟩) HS5.out (fun k hk => hk.2) _, Kept.setCell (Kept.of_grown HG5.out (Kept.of_below HB3.out _) (fun k hk => .inl (.inl ((Kd.S_R HO.out).1 k hk).1))) (.inl (.inr rfl)) _, HB5.out.setCell (show B ≤ go by have := HN.out; omega) _⟩
theorem impl_grow.w64 (n : Int) (h1 : -9223372036854775808 ≤ n) (h2 : n ≤ 9223372036854775807) : wrap64 n = n := by unfold wrap64; omega
theorem impl_grow.at_eq (l : List Int) (a : Int) (hl : l.length ≤ 4000000) : impl_at.f l a = some (Gr.atL l a) := by
  unfold impl_at.f impl_within.f Gr.atL rd
  rw [impl_grow.w64 _ (by omega) (by omega)]
  by_cases h0 : 0 ≤ a
  · rw [if_pos h0]
    by_cases h1 : a < (l.length : Int)
    · have h2 : a ≤ (l.length : Int) - 1 := by omega
      simp [h0, h1, h2]
    · have h2 : ¬ a ≤ (l.length : Int) - 1 := by omega
      simp [h1, h2]
  · rw [if_neg h0]
    simp [h0]
theorem impl_grow.atL_bound (l : List Int) (a : Int) (h : ∀ x ∈ l, 0 ≤ x ∧ x ≤ 9) : 0 ≤ Gr.atL l a ∧ Gr.atL l a ≤ 9 := by
  unfold Gr.atL
  split
  · rename_i hc
    have hlt : a.toNat < l.length := by omega
    have := h (l.getD a.toNat 0) (by simp [List.getD, hlt])
    exact this
  · omega
theorem impl_grow.entry_eq (inner : List Int) (rows : List (List Int)) (i : Nat) (c : Int) (hi : i ≤ rows.length) (hl : inner.length ≤ 4000000) (hr : rows.length ≤ 4000000) (hrs : ∀ r ∈ rows, r.length ≤ 4000000) (hb : ∀ x ∈ inner, 0 ≤ x ∧ x ≤ 9) (hc : -4000000 ≤ c ∧ c ≤ 4000000) :
    impl_Tableau_entry.f inner rows ((i : Int) - 1) c = some (Gr.above inner rows i c) := by
  unfold impl_Tableau_entry.f impl_within.f Gr.above
  rw [impl_grow.w64 _ (by omega) (by omega)]
  by_cases h0 : 0 < i
  · have h1 : (0 : Int) ≤ (i : Int) - 1 := by omega
    have h2 : (i : Int) - 1 ≤ (rows.length : Int) - 1 := by omega
    have h3 : (i : Int) - 1 < (rows.length : Int) := by omega
    have h4 := impl_grow.atL_bound inner ((i : Int) - 1) hb
    have h5 : ((i : Int) - 1).toNat = i - 1 := by omega
    have h6 : (rd_L3 rows ((i : Int) - 1)) = rows.getD (i - 1) [] := by unfold rd_L3; rw [h5]
    have h7 : (rows.getD (i - 1) []).length ≤ 4000000 := hrs _ (by have : i - 1 < rows.length := by omega
                                                                   simp [List.getD, this])
    simp only [if_pos h1, decide_eq_true h2, Option.bind_some, if_pos h3, if_pos h0, impl_grow.at_eq inner _ hl, h6, if_true]
    rw [impl_grow.w64 _ (by omega) (by omega), impl_grow.at_eq _ _ h7]
    rfl
  · have h1 : ¬ (0 : Int) ≤ (i : Int) - 1 := by omega
    rw [if_neg h1]
    simp [h0]
def impl_grow.step (fin : List (List Int) → List (List (List Int))) (outer inner : List Int) (k : Int) (left : Nat) (rows : List (List Int)) (i : Nat) : List (List (List Int)) :=
  if Gr.skip outer inner rows k i then [] else Gr.putL fin outer inner k left (rows.set i (rows.getD i [] ++ [k])) i
theorem impl_grow.own_same (A : Option Addr) (n m c : Nat) : (Value.slice A m c).ownBlock = (Value.slice A n c).ownBlock := by
  cases A <;> rfl
theorem impl_grow.own_cut {w : World} {B c : Nat} {A : Option Addr} {xs ys : List Int} {k : Int} (hy : ys = xs ++ [k]) (hl : ys.length = xs.length + 1) (h : w.ownsRow B 3 1 (.slice A (xs.length + 1) c) (xs.length + 1) (nums .i64 ys)) : w.ownsRow B 3 1 (.slice A xs.length c) xs.length (nums .i64 xs) := by
  rw [← hl] at h
  have hR : Kd.R (Kd.int .i64) 3 w B (fun _ => True) (.slice A ys.length c) ys := Kd.R_of_own h (fun _ _ => trivial)
  have h2 := Kd.R_take hR (m := xs.length) (by omega)
  have e : ys.take xs.length = xs := by rw [hy]; simp
  rw [e] at h2
  exact Kd.own_of_R h2
theorem impl_grow.cutrun {P : Program} {t e : TypeId} {z : Option Value} {b : Nat} {w : World} {B c n : Nat} {A : Option Addr} {ys : List Int} (hs : (P.info? e).map (fun i => (i.zero, i.size, i.bytes)) = some (z, 1, b)) (ht : P.underlying t = some (.slice e)) (hl : ys.length = n + 1) (ho : w.ownsRow B 3 1 (.slice A (n + 1) c) (n + 1) (nums .i64 ys)) (W : World) :
    Sem.run P (Instr.slice t (.slice A (n + 1) c) none (some (.int .i64 (n : Int))) none) W = .ok (.slice A n c) W := by
  obtain ⟨i, hi, hz⟩ := Option.map_eq_some_iff.1 hs
  have hsz : i.size = 1 := by simp only [Prod.mk.injEq] at hz; exact hz.2.1
  have hc : n + 1 ≤ c := (impl_grow.own_reads ho hl).1
  have h := (print_take_of (P := P) (Value.int .i64) 0 t e .i64 ht hi hsz A c ys (n : Int) (by omega) (by omega) (by omega)).1 W
  rw [hl] at h
  rw [show (ys.take ((n : Nat) : Int).toNat).length = n from by rw [Int.toNat_natCast, List.length_take]; omega] at h
  exact h
theorem impl_grow.step_skip {fin : List (List Int) → List (List (List Int))} {outer inner : List Int} {k : Int} {left : Nat} {rows : List (List Int)} {i : Nat} (h : Gr.skip outer inner rows k i = true) : impl_grow.step fin outer inner k left rows i = [] := by
  unfold impl_grow.step
  rw [if_pos h]
theorem impl_grow.step_go {fin : List (List Int) → List (List (List Int))} {outer inner : List Int} {k : Int} {left : Nat} {rows : List (List Int)} {i : Nat} (h : Gr.skip outer inner rows k i = false) : impl_grow.step fin outer inner k left rows i = Gr.putL fin outer inner k left (rows.set i (rows.getD i [] ++ [k])) i := by
  unfold impl_grow.step
  rw [if_neg (by rw [h]; simp)]
theorem impl_grow.bound_set {rows : List (List Int)} {i left t : Nat} {k : Int} (h : ∀ r ∈ rows, r.length + (left + 1) + t ≤ 1000) (hi : i < rows.length) : ∀ r ∈ rows.set i (rows.getD i [] ++ [k]), r.length + left + t ≤ 1000 := by
  intro r hr
  rcases List.mem_or_eq_of_mem_set hr with h1 | h1
  · have := h r h1; omega
  · have := h (rows.getD i []) (by simp [List.getD, hi])
    rw [h1, List.length_append]
    simp only [List.length_singleton]
    omega
theorem impl_grow.getD_set (rows : List (List Int)) (i : Nat) (ys : List Int) (h : i < rows.length) : (rows.set i ys).getD i [] = ys := by
  simp [List.getD, h]
theorem impl_grow.set_back (rows : List (List Int)) (i : Nat) (ys xs : List Int) (h : xs = rows.getD i []) (hi : i < rows.length) : (rows.set i ys).set i xs = rows := by
  rw [List.set_set, h]
  apply List.ext_getElem?
  intro j
  rw [List.getElem?_set]
  split
  · rename_i e
    subst e
    simp [List.getD, hi]
  · rfl
theorem impl_grow.pred_of {i g n : Nat} (h : n ≤ i + g) (hi : i < n) : ∃ g', g = g' + 1 := ⟨g - 1, by omega⟩
theorem impl_grow.next {r i n g : Nat} (h : r ≤ i ∧ i ≤ n ∧ n ≤ i + (g + 1)) (hi : i < n) : r ≤ i + 1 ∧ i + 1 ≤ n ∧ n ≤ (i + 1) + g := by omega
theorem impl_grow.acc {α : Type} (f : Nat → List α) (row i : Nat) (h : row ≤ i) : (List.range' row (i + 1 - row)).flatMap f = (List.range' row (i - row)).flatMap f ++ f i := by
  rw [show i + 1 - row = (i - row) + 1 from by omega, List.range'_1_concat, List.flatMap_append, show row + (i - row) = i from by omega]
  simp
theorem impl_grow.acc_le {α : Type} (f : Nat → List α) (row i n : Nat) (h : row ≤ i) (hi : i < n) : ((List.range' row (i - row)).flatMap f).length + (f i).length ≤ ((List.range' row (n - row)).flatMap f).length := by
  have h1 := impl_grow.acc f row i h
  have h2 : List.range' row (n - row) = List.range' row (i + 1 - row) ++ List.range' (i + 1) (n - (i + 1)) := by
    rw [show n - row = (i + 1 - row) + (n - (i + 1)) from by omega, ← List.range'_append_1, show row + (i + 1 - row) = i + 1 from by omega]
  rw [h2, List.flatMap_append, h1, List.length_append, List.length_append]
  omega
def impl_tableaux.T160_1 : Bool × List (List Nat × List Nat) := (true, [([], []), ([], []), ([], []), ([2], [2]), ([], []), ([4], [4]), ([], []), ([0, 1, 3, 5, 6], [0, 1, 3, 5, 6])])
def impl_tableaux.B160_1 : List Nat := [0, 0, 0, 4, 0, 16, 0, 127]
theorem impl_tableaux.tab160_1 : rtab .any (opsOf Tryd.f160 1) = impl_tableaux.T160_1 := by kernel_rfl
theorem impl_tableaux.bits160_1 : waitsOk impl_tableaux.T160_1.2 impl_tableaux.B160_1 = true := by kernel_rfl
def impl_tableaux.T160_5 : Bool × List (List Nat × List Nat) := (true, [([], []), ([0], [0]), ([], []), ([1, 2], [1, 2]), ([], []), ([4], [4]), ([], []), ([5, 6], [5, 6]), ([7], [7]), ([8], [8]), ([3, 9], [3, 9]), ([10, 3, 0, 1, 2, 3, 4, 5, 6, 7, 8, 9, 10], [10])])
def impl_tableaux.B160_5 : List Nat := [0, 1, 0, 7, 0, 16, 0, 112, 240, 496, 1023, 2047]
theorem impl_tableaux.tab160_5 : rtab .any (opsOf Tryd.f160 5) = impl_tableaux.T160_5 := by kernel_rfl
theorem impl_tableaux.bits160_5 : waitsOk impl_tableaux.T160_5.2 impl_tableaux.B160_5 = true := by kernel_rfl
def impl_tableaux.T160_9 : Bool × List (List Nat × List Nat) := (true, [([], []), ([0], [0]), ([], []), ([], []), ([3], [3]), ([], []), ([4, 5], [4, 5]), ([6], [6]), ([], []), ([8], [8]), ([7, 9], [7, 9]), ([1, 2, 0, 1, 2, 3, 4, 5, 6, 7, 8, 9, 10], [1, 2]), ([11, 10, 10, 0, 1, 2, 3, 4, 5, 6, 7, 8, 9, 10], [10, 11])])
def impl_tableaux.B160_9 : List Nat := [0, 1, 0, 0, 8, 0, 56, 120, 0, 256, 1016, 2047, 4095]
theorem impl_tableaux.tab160_9 : rtab .any (opsOf Tryd.f160 9) = impl_tableaux.T160_9 := by kernel_rfl
theorem impl_tableaux.bits160_9 : waitsOk impl_tableaux.T160_9.2 impl_tableaux.B160_9 = true := by kernel_rfl
def impl_tableaux.T160_11 : Bool × List (List Nat × List Nat) := (true, [([], []), ([0], [0]), ([], []), ([], []), ([3], [3]), ([], []), ([4, 5], [4, 5]), ([6], [6]), ([], []), ([8], [8]), ([], []), ([9, 10], [9, 10]), ([11], [11]), ([12], [12]), ([13], [13]), ([7, 14], [7, 14]), ([1, 2, 0, 1, 2, 3, 4, 5, 6, 7, 8, 9, 10, 11, 12, 13, 14, 15], [1, 2]), ([16, 15, 0, 1, 2, 3, 4, 5, 6, 7, 8, 9, 10, 11, 12, 13, 14, 15], [15, 16])])
def impl_tableaux.B160_11 : List Nat := [0, 1, 0, 0, 8, 0, 56, 120, 0, 256, 0, 1792, 3840, 7936, 16128, 32760, 65535, 131071]
theorem impl_tableaux.tab160_11 : rtab .any (opsOf Tryd.f160 11) = impl_tableaux.T160_11 := by kernel_rfl
theorem impl_tableaux.bits160_11 : waitsOk impl_tableaux.T160_11.2 impl_tableaux.B160_11 = true := by kernel_rfl
set_option maxHeartbeats 4000000 in
set_option maxRecDepth 100000 in
theorem impl_grow.put_calls (B go gR : Nat) (outer inner : List Int) (Ao Ai At : Option Addr) (co ci ct : Nat) (hco : outer.length ≤ co) (hci : inner.length ≤ ci) (hct : inner.length ≤ ct)
    (hbo : ∀ x ∈ outer, 0 ≤ x ∧ x ≤ 9) (hbi : ∀ x ∈ inner, 0 ≤ x ∧ x ≤ 9) (hlo : outer.length ≤ 1000) (hli : inner.length ≤ 1000) (w0 : Int) (ws : List Int) (k : Int) (hk0 : 0 ≤ k) (hk1 : k + (ws.length : Int) + 1 ≤ 1000) (cw : Nat) (Aw : Option Addr) (hcw : ws.length + 1 ≤ cw)
    (ih : impl_grow.Ok B go gR outer inner Ao Ai At co ci ct ws) (bs bt bk bw be bp : Nat) :
    ∀ (left row : Nat) (rows : List (List Int)) (ts : List S56) (T O : Nat → Prop) (w : World), impl_grow.St w B go gR T O rows ts → rows.length = outer.length → row ≤ outer.length → (∀ r ∈ rows, r.length + left + impl_grow.total ws ≤ 1000) →
      ts.length + (Gr.putL (fun rows => Gr.growL outer inner ws rows (k + 1)) outer inner k left rows row).length < 2000000000 →
      impl_grow.Reads w (impl_grow.Mg go T O) Ao outer → impl_grow.Reads w (impl_grow.Mg go T O) Ai inner → impl_grow.Reads w (impl_grow.Mg go T O) At inner → impl_grow.Reads w (impl_grow.Mg go T O) Aw (w0 :: ws) →
      impl_grow.Boxes w (impl_grow.Mg go T O) go gR outer inner Ao Ai At co ci ct k Aw (ws.length + 1) cw bs bt bk bw be bp →
      Calls Tryd.prog 160 #[.int .i64 row, .int .i64 left, .pointer (some ⟨bs, 0, none⟩), .pointer (some ⟨bt, 0, none⟩), .pointer (some ⟨bk, 0, none⟩), .pointer (some ⟨bw, 0, none⟩), .pointer (some ⟨be, 0, none⟩), .pointer (some ⟨bp, 0, none⟩)] w
        fun e w' => e = .returned (.tuple #[]) ∧ impl_grow.Done w w' B go gR T O rows (ts ++ (Gr.putL (fun rows => Gr.growL outer inner ws rows (k + 1)) outer inner k left rows row).map (fun r => ⟨inner, r⟩)) := by
  intro left
  induction left with
  | zero =>
    intro row rows ts T O w hst hrl hrow hrs hts hAo hAi hAt hAw hB
    have hu38 := Tryd.underlying38
    have hu56 := Tryd.underlying56
    have hinfo : (Tryd.prog.info? 3).map (·.size) = some 1 := by kernel_rfl
    obtain ⟨i0, hi0, hsz0⟩ := Option.map_eq_some_iff.1 hinfo
    obtain ⟨Aw', hcut, hcutr⟩ := print_cut_of (P := Tryd.prog) (Value.int .i64) 0 22 3 .i64 Tryd.underlying22 hi0 hsz0 Aw (ws.length + 1) cw 1 (by omega)
    have hAw' : impl_grow.Reads w (impl_grow.Mg go T O) Aw' ws := fun W hW => by
      have h1 := hcutr W (w0 :: ws) hcw (Kd.reads_of_C (hAw W hW))
      exact Kd.C_of_reads (d := (0 : Int)) (h1 := fun _ => rfl) (by simpa using h1)
    rw [show ((1 : Nat) : Int) = 1 from rfl, Nat.add_sub_cancel] at hcut
    clear hinfo hcutr hAw
    have hkw : wrap64 (k + 1) = k + 1 := impl_grow.w64 _ (by omega) (by omega)
    have HST := Aside0.mk (hst.below (w' := w.drew) (Below.refl _ _).drew)
    have HAo := Aside0.mk (hAo.to (w' := w.drew) (Kept.refl _ _).drew (fun _ h => .inl h))
    have HAi := Aside0.mk (hAi.to (w' := w.drew) (Kept.refl _ _).drew (fun _ h => .inl h))
    have HAt := Aside0.mk (hAt.to (w' := w.drew) (Kept.refl _ _).drew (fun _ h => .inl h))
    have HAw := Aside0.mk (hAw'.to (w' := w.drew) (Kept.refl _ _).drew (fun _ h => .inl h))
    have HB := Aside0.mk hB
    have HRS := Aside0.mk hrs
    have HTS := Aside0.mk hts
    have HBO := Aside0.mk (And.intro hbo hbi)
    have IH := Aside0.mk ih
    clear hst hAo hAi hAt hAw' hB hrs hts hbo hbi ih
    go_enter Tryd.func160, Tryd.ntmps160
    go_wp2
    refine start_ (n := 8) (S := fun w' => w'.cell? ⟨bs, 0, none⟩ = some (.slice Ao outer.length co) ∧ w'.cell? ⟨bs, 1, none⟩ = some (.slice Ai inner.length ci) ∧ w'.cell? ⟨bt, 0, none⟩ = some (.slice At inner.length ct) ∧ w'.cell? ⟨bt, 1, none⟩ = some (.slice (some ⟨gR, 0, none⟩) outer.length outer.length) ∧ w'.cell? ⟨bk, 0, none⟩ = some (.int .i64 k) ∧ w'.cell? ⟨bw, 0, none⟩ = some (.slice Aw (ws.length + 1) cw) ∧ w'.cell? ⟨be, 0, none⟩ = some (.func (.func 138) #[] #[.pointer (some ⟨go, 0, none⟩)])) (ds := [7]) #[false, false, false, false, false, false, false, false] (by kernel_rfl) rfl rfl (⟨(blk_cell HB.out.hs 0).trans rfl, (blk_cell HB.out.hs 1).trans rfl, (blk_cell HB.out.ht 0).trans rfl, (blk_cell HB.out.ht 1).trans rfl, (blk_cell HB.out.hk 0).trans rfl, (blk_cell HB.out.hw 0).trans rfl, (blk_cell HB.out.he 0).trans rfl⟩) (fun hHeld => ?_); refine with_tabW impl_tableaux.tab160_1 impl_tableaux.bits160_1 (fun HT_ HW_ => ?_)
    generalize hwd : w.drew = wd at HST HAo HAi HAt HAw hHeld ⊢
    refine take_ (i := 0) (N := some 16) (v := ?_) (a' := ?_) #[true, false, false, false, false, false, false, false] rfl rfl (take_ofW HT_.out HW_.out (by kernel_rfl)) (fun _ _ _ h => h) (Or.inl ⟨by rfl, ?_⟩) hHeld ?_ ?_
    rotate_left
    · rintro w' ⟨s0, s1, s2, s3, s4, s5, s6⟩
      go_simp
      with_reducible rfl
    rotate_left
    · simp only [Act.put, List.setIfInBounds_toArray, List.set_cons_zero, List.set_cons_succ, i64_w, i32_w]
      rfl
    refine take_ (i := 1) (N := some 17) (v := ?_) (a' := ?_) #[true, true, false, false, false, false, false, false] rfl rfl (take_ofW HT_.out HW_.out (by kernel_rfl)) (fun _ _ _ h => h) (Or.inl ⟨by rfl, ?_⟩) hHeld ?_ ?_
    rotate_left
    · rintro w' ⟨s0, s1, s2, s3, s4, s5, s6⟩
      go_simp
      with_reducible rfl
    rotate_left
    · simp only [Act.put, List.setIfInBounds_toArray, List.set_cons_zero, List.set_cons_succ, i64_w, i32_w]
      rfl
    refine take_ (i := 2) (N := some 18) (v := ?_) (a' := ?_) #[true, true, true, false, false, false, false, false] rfl rfl (take_ofW HT_.out HW_.out (by kernel_rfl)) (fun _ _ _ h => h) (Or.inl ⟨by rfl, ?_⟩) hHeld ?_ ?_
    rotate_left
    · rintro w' ⟨s0, s1, s2, s3, s4, s5, s6⟩
      go_simp
      with_reducible rfl
    rotate_left
    · simp only [Act.put, List.setIfInBounds_toArray, List.set_cons_zero, List.set_cons_succ, i64_w, i32_w]
      rfl
    refine pure_ (i := 3) (N := some 19) (v := ?_) (a' := ?_) #[true, true, true, true, false, false, false, false] rfl rfl (any_of HT_.out (by kernel_rfl)) (fun _ _ _ h => h) (Or.inl ⟨by rfl, ?_⟩) ?_ ?_
    rotate_left
    · intro w'
      go_simp
      with_reducible rfl
    rotate_left
    · simp only [Act.put, List.setIfInBounds_toArray, List.set_cons_zero, List.set_cons_succ, i64_w, i32_w]
      rfl
    refine take_ (i := 4) (N := some 20) (v := ?_) (a' := ?_) #[true, true, true, true, true, false, false, false] rfl rfl (take_ofW HT_.out HW_.out (by kernel_rfl)) (fun _ _ _ h => h) (Or.inl ⟨by rfl, ?_⟩) hHeld ?_ ?_
    rotate_left
    · rintro w' ⟨s0, s1, s2, s3, s4, s5, s6⟩
      go_simp
      with_reducible rfl
    rotate_left
    · simp only [Act.put, List.setIfInBounds_toArray, List.set_cons_zero, List.set_cons_succ, i64_w, i32_w]
      rfl
    refine pure_ (i := 5) (N := some 21) (v := ?_) (a' := ?_) #[true, true, true, true, true, true, false, false] rfl rfl (any_of HT_.out (by kernel_rfl)) (fun _ _ _ h => h) (Or.inl ⟨by rfl, ?_⟩) ?_ ?_
    rotate_left
    · intro w'
      go_simp
      with_reducible rfl
    rotate_left
    · simp only [Act.put, List.setIfInBounds_toArray, List.set_cons_zero, List.set_cons_succ, i64_w, i32_w]
      rfl
    refine take_ (i := 6) (N := some 22) (v := ?_) (a' := ?_) #[true, true, true, true, true, true, true, false] rfl rfl (take_ofW HT_.out HW_.out (by kernel_rfl)) (fun _ _ _ h => h) (Or.inl ⟨by rfl, ?_⟩) hHeld ?_ ?_
    rotate_left
    · rintro w' ⟨s0, s1, s2, s3, s4, s5, s6⟩
      go_simp
      with_reducible rfl
    rotate_left
    · simp only [Act.put, List.setIfInBounds_toArray, List.set_cons_zero, List.set_cons_succ, i64_w, i32_w]
      rfl
    refine last_ (i := 7) (N := some 23) #[true, true, true, true, true, true, true, true] rfl rfl (one_of HT_.out (by kernel_rfl)) (by decide) (fun K hK => ?_)
    refine goes_ Tryd.func137 (by kernel_rfl) rfl #[.agg #[.slice Ao outer.length co, .slice Ai inner.length ci], .agg #[.slice At inner.length ct, .slice (some ⟨gR, 0, none⟩) outer.length outer.length], .int .i64 (wrap64 (k + 1)), .slice Aw' ws.length (cw - 1), .func (.func 138) #[] #[.pointer (some ⟨go, 0, none⟩)]] (by rfl) rfl rfl (by (try simp only [List.map_toArray, List.map_cons, List.map_nil]); rfl) ?_
    rw [hkw]
    refine (IH.out (k + 1) rows ts T O wd Aw' (cw - 1) HST.out hrl (fun r hr => by have := HRS.out r hr; omega) (by omega) (by omega) (by have := HTS.out; simpa [Gr.putL] using this) HAo.out HAi.out HAt.out HAw.out (by omega)).mono ?_
    rintro e w' ⟨rfl, hD⟩
    refine ⟨_, rfl, ?_⟩
    refine hK.out _ _ ?_
    refine done_ (done_of HT_.out (by kernel_rfl)) ?_
    go_wp2
    refine bodyPost_ret (results_none rfl _ _ _) rfl ?_
    subst hwd
    exact ⟨rfl, impl_grow.Done.from_ (Kept.refl _ _).drew (fun _ h => .inl h) (Below.refl _ _).drew (by simpa only [Gr.putL] using hD)⟩
  | succ left ihl =>
    intro row rows ts T O w hst hrl hrow hrs hts hAo hAi hAt hAw hB
    have hu38 := Tryd.underlying38
    have hu56 := Tryd.underlying56
    have hl0 : ¬ ((left + 1 : Nat) : Int) = 0 := by omega
    obtain ⟨lf, hlf⟩ : ∃ l : Int, l = ((left + 1 : Nat) : Int) := ⟨_, rfl⟩
    rw [← hlf] at hl0 ⊢
    have hl0b : (lf == 0) = false := beq_false_of_ne hl0
    have HLF := Aside0.mk hlf
    have HST := Aside0.mk hst
    have HAo := Aside0.mk hAo
    have HAi := Aside0.mk hAi
    have HAt := Aside0.mk hAt
    have HAw := Aside0.mk hAw
    have HB := Aside0.mk hB
    have HRS := Aside0.mk hrs
    have HTS := Aside0.mk hts
    have HBO := Aside0.mk (And.intro hbo hbi)
    have IH := Aside0.mk ihl
    have HRL := Aside0.mk hrl
    have HROW := Aside0.mk hrow
    have HINF := Aside0.mk (show (Tryd.prog.info? 3).map (fun i => (i.zero, i.size, i.bytes)) = some (some (.int .i64 0), 1, 8) from by kernel_rfl)
    clear hst hAo hAi hAt hAw hB hrs hts hbo hbi ihl hlf hrl hrow ih
    go_enter Tryd.func160, Tryd.ntmps160
    go_wp2
    go_loopg [10] outer.length (fun kq v10 wr => ∃ i : Nat, v10 = .int .i64 (i : Int) ∧ Aside0 (row ≤ i ∧ i ≤ outer.length ∧ outer.length ≤ i + kq) ∧ Aside0 (impl_grow.Done w wr B go gR T O rows (ts ++ ((List.range' row (i - row)).flatMap (impl_grow.step (fun rows => Gr.growL outer inner ws rows (k + 1)) outer inner k left rows)).map (fun r => ⟨inner, r⟩))))
    case atStart => have h := HROW.out; exact ⟨row, rfl, ⟨Nat.le_refl _, h, by omega⟩, ⟨by simpa using impl_grow.Done.refl HST.out⟩⟩
    case round =>
      obtain ⟨i, rfl, HI, HD⟩ := hrel
      obtain ⟨T1, O1, hst1, hk1, hM1, hb1⟩ := HD.out
      have HST1 := Aside0.mk hst1
      have HK1 := Aside0.mk hk1
      have HM1 := Aside0.mk hM1
      have HBL1 := Aside0.mk hb1
      have HB1 := Aside0.mk (HB.out.to hk1 hM1)
      have HAo1 := Aside0.mk (HAo.out.to hk1 hM1)
      have HAi1 := Aside0.mk (HAi.out.to hk1 hM1)
      have HAt1 := Aside0.mk (HAt.out.to hk1 hM1)
      have HAw1 := Aside0.mk (HAw.out.to hk1 hM1)
      clear hst1 hk1 hM1 hb1 HD HST HAo HAi HAt HAw HB
      have xs0 := (blk_cell HB1.out.hs 0).trans rfl
      have xs1 := (blk_cell HB1.out.hs 1).trans rfl
      by_cases hlt : (i : Int) < (outer.length : Int)
      · have hi0 : (0 : Int) ≤ (i : Int) := Int.natCast_nonneg i
        have HILT : i < outer.length := by omega
        obtain ⟨g1, rfl⟩ := impl_grow.pred_of HI.out.2.2 HILT
        have HR := Aside0.mk (HST1.out.rowsAt.row i (by rw [HRL.out]; exact HILT))
        have xt0 := (blk_cell HB1.out.ht 0).trans rfl
        have xt1 := (blk_cell HB1.out.ht 1).trans rfl
        have xk := (blk_cell HB1.out.hk 0).trans rfl
        obtain ⟨xs, hxs⟩ : ∃ xs, xs = rows.getD i [] := ⟨_, rfl⟩
        have HXS := Aside0.mk hxs
        have hxlen : xs.length ≤ 1000 := by
          have := HRS.out xs (by rw [hxs]; have : i < rows.length := by rw [HRL.out]; exact HILT
                                 simp [List.getD, this])
          omega
        obtain ⟨Ar, cr, hcr, hownr, hblkr⟩ := HR.out
        rw [← hxs] at hcr hownr hblkr
        have HOWNR := Aside0.mk hownr
        have HBLKR := Aside0.mk hblkr
        obtain ⟨a0, ha0⟩ : ∃ a, a = Gr.atL inner (i : Int) := ⟨_, rfl⟩
        have ha0b := impl_grow.atL_bound inner (i : Int) HBO.out.2
        rw [← ha0] at ha0b
        have ATI : ∀ W, Kd.C (Kd.int .i64) W Ai inner.length inner → Calls Tryd.prog 94 #[.slice Ai inner.length ci, .int .i64 (i : Int)] W fun e w' => e = .returned (.int .i64 a0) ∧ Drawn0 W w' :=
          fun W hW => impl_at.calls Ai ci inner (i : Int) a0 W hW hci (by rw [ha0]; exact impl_grow.at_eq inner _ (by omega))
        obtain ⟨cI, hcI⟩ : ∃ c, c = Gr.col inner rows i := ⟨_, rfl⟩
        have hcI' : cI = a0 + (xs.length : Int) := by rw [hcI, ha0, hxs]; rfl
        have hcIb : 0 ≤ cI ∧ cI ≤ 1009 := by omega
        have hwcI : wrap64 (a0 + (xs.length : Int)) = cI := by rw [impl_grow.w64 _ (by omega) (by omega)]; exact hcI'.symm
        obtain ⟨ab, hab⟩ : ∃ a, a = Gr.above inner rows i cI := ⟨_, rfl⟩
        have HCI := Aside0.mk hcI
        have HAB := Aside0.mk hab
        have HA0 := Aside0.mk ha0
        have ENT : ∀ W, Kd.C (Kd.int .i64) W At inner.length inner → Kd.C (Kd.slice 3 (Kd.int .i64)) W (some ⟨gR, 0, none⟩) rows.length rows → Calls Tryd.prog 131 #[.agg #[.slice At inner.length ct, .slice (some ⟨gR, 0, none⟩) outer.length outer.length], .int .i64 ((i : Int) - 1), .int .i64 cI] W fun e w' => e = .returned (.int .i64 ab) ∧ Below W.heap.size W w' := by
          intro W h1 h2
          have h := impl_Tableau_entry.calls At ct inner (some ⟨gR, 0, none⟩) outer.length rows ((i : Int) - 1) cI ab W h1 hct h2 (by rw [HRL.out]; exact Nat.le_refl _) (by rw [hab]; exact impl_grow.entry_eq inner rows i cI (by rw [HRL.out]; omega) (by omega) (by rw [HRL.out]; omega) (fun r hr => by have := HRS.out r hr; omega) HBO.out.2 (by omega))
          rw [HRL.out] at h
          exact h
        clear HR hxs hownr hblkr ha0 hcI hcI' hab
        go_wp2
        refine start_ (n := 12) (S := fun w' => w'.cell? ⟨bs, 1, none⟩ = some (.slice Ai inner.length ci) ∧ w'.cell? ⟨bt, 1, none⟩ = some (.slice (some ⟨gR, 0, none⟩) outer.length outer.length) ∧ w'.cell? ⟨gR, i, none⟩ = some (.slice Ar xs.length cr)) (ds := []) #[false, false, false, false, false, false, false, false, false, false, false, false] (by kernel_rfl) rfl rfl (⟨xs1, xt1, hcr⟩) (fun hHeld => ?_); refine with_tabW impl_tableaux.tab160_5 impl_tableaux.bits160_5 (fun HT_ HW_ => ?_)
        generalize hwd : wr.drew = wd at hHeld ⊢
        refine pure_ (i := 0) (N := some 32) (v := ?_) (a' := ?_) #[true, false, false, false, false, false, false, false, false, false, false, false] rfl rfl (any_of HT_.out (by kernel_rfl)) (fun _ _ _ h => h) (Or.inl ⟨by rfl, ?_⟩) ?_ ?_
        rotate_left
        · intro w'
          go_simp
          with_reducible rfl
        rotate_left
        · simp only [Act.put, List.setIfInBounds_toArray, List.set_cons_zero, List.set_cons_succ, i64_w, i32_w]
          rfl
        refine pure_ (i := 2) (N := some 34) (v := ?_) (a' := ?_) #[true, false, true, false, false, false, false, false, false, false, false, false] rfl rfl (any_of HT_.out (by kernel_rfl)) (fun _ _ _ h => h) (Or.inl ⟨by rfl, ?_⟩) ?_ ?_
        rotate_left
        · intro w'
          go_simp
          with_reducible rfl
        rotate_left
        · simp only [Act.put, List.setIfInBounds_toArray, List.set_cons_zero, List.set_cons_succ, i64_w, i32_w]
          rfl
        refine pure_ (i := 4) (N := some 36) (v := ?_) (a' := ?_) #[true, false, true, false, true, false, false, false, false, false, false, false] rfl rfl (any_of HT_.out (by kernel_rfl)) (fun _ _ _ h => h) (Or.inl ⟨by rfl, ?_⟩) ?_ ?_
        rotate_left
        · intro w'
          go_simp
          with_reducible rfl
        rotate_left
        · simp only [Act.put, List.setIfInBounds_toArray, List.set_cons_zero, List.set_cons_succ, i64_w, i32_w]
          rfl
        refine pure_ (i := 6) (N := some 38) (v := ?_) (a' := ?_) #[true, false, true, false, true, false, true, false, false, false, false, false] rfl rfl (any_of HT_.out (by kernel_rfl)) (fun _ _ _ h => h) (Or.inl ⟨by rfl, ?_⟩) ?_ ?_
        rotate_left
        · intro w'
          go_simp
          with_reducible rfl
        rotate_left
        · simp only [Act.put, List.setIfInBounds_toArray, List.set_cons_zero, List.set_cons_succ, i64_w, i32_w]
          rfl
        refine take_ (i := 1) (N := some 33) (v := ?_) (a' := ?_) #[true, true, true, false, true, false, true, false, false, false, false, false] rfl rfl (take_ofW HT_.out HW_.out (by kernel_rfl)) (fun _ _ _ h => h) (Or.inl ⟨by rfl, ?_⟩) hHeld ?_ ?_
        rotate_left
        · rintro w' ⟨s0, s1, s2⟩
          go_simp
          with_reducible rfl
        rotate_left
        · simp only [Act.put, List.setIfInBounds_toArray, List.set_cons_zero, List.set_cons_succ, i64_w, i32_w]
          rfl
        refine take_ (i := 5) (N := some 37) (v := ?_) (a' := ?_) #[true, true, true, false, true, true, true, false, false, false, false, false] rfl rfl (take_ofW HT_.out HW_.out (by kernel_rfl)) (fun _ _ _ h => h) (Or.inl ⟨by rfl, ?_⟩) hHeld ?_ ?_
        rotate_left
        · rintro w' ⟨s0, s1, s2⟩
          go_simp
          with_reducible rfl
        rotate_left
        · simp only [Act.put, List.setIfInBounds_toArray, List.set_cons_zero, List.set_cons_succ, i64_w, i32_w]
          rfl
        refine pure_ (i := 7) (N := some 39) (v := ?_) (a' := ?_) #[true, true, true, false, true, true, true, true, false, false, false, false] rfl rfl (any_of HT_.out (by kernel_rfl)) (fun _ _ _ h => h) (Or.inl ⟨by rfl, ?_⟩) ?_ ?_
        rotate_left
        · intro w'
          go_simp
          with_reducible rfl
        rotate_left
        · simp only [Act.put, List.setIfInBounds_toArray, List.set_cons_zero, List.set_cons_succ, i64_w, i32_w]
          rfl
        refine take_ (i := 8) (N := some 40) (v := ?_) (a' := ?_) #[true, true, true, false, true, true, true, true, true, false, false, false] rfl rfl (take_ofW HT_.out HW_.out (by kernel_rfl)) (fun _ _ _ h => h) (Or.inl ⟨by rfl, ?_⟩) hHeld ?_ ?_
        rotate_left
        · rintro w' ⟨s0, s1, s2⟩
          go_simp
          with_reducible rfl
        rotate_left
        · simp only [Act.put, List.setIfInBounds_toArray, List.set_cons_zero, List.set_cons_succ, i64_w, i32_w]
          rfl
        refine pure_ (i := 9) (N := some 41) (v := ?_) (a' := ?_) #[true, true, true, false, true, true, true, true, true, true, false, false] rfl rfl (any_of HT_.out (by kernel_rfl)) (fun _ _ _ h => h) (Or.inl ⟨by rfl, ?_⟩) ?_ ?_
        rotate_left
        · intro w'
          go_simp
          with_reducible rfl
        rotate_left
        · simp only [Act.put, List.setIfInBounds_toArray, List.set_cons_zero, List.set_cons_succ, i64_w, i32_w]
          rfl
        have hH0 := hHeld
        refine one_ (i := 3) (N := some 35) #[true, true, true, true, true, true, true, true, true, true, false, false] rfl rfl (one_of HT_.out (by kernel_rfl)) (by decide) (fun K hK => ?_)
        refine goes_ Tryd.func94 (by kernel_rfl) rfl #[.slice Ai inner.length ci, .int .i64 (i : Int)] (by rfl) rfl rfl (by (try simp only [List.map_toArray, List.map_cons, List.map_nil]); rfl) ?_
        refine (ATI wd (by subst hwd; exact HAi1.out _ (Kept.refl _ _).drew)).mono ?_
        rintro e w' ⟨rfl, ⟨nd, rfl⟩⟩
        refine ⟨_, rfl, ?_⟩
        refine hK.out _ _ hH0 (fun hHeld => ?_)
        clear hK K
        refine norm_ (a' := ?_) ?_ ?_
        rotate_left
        · show Act.put _ (some 35) _ = _
          simp only [Act.put, List.setIfInBounds_toArray, List.set_cons_zero, List.set_cons_succ, i64_w, i32_w]
          rfl
        refine pure_ (i := 10) (N := some 42) (v := ?_) (a' := ?_) #[true, true, true, true, true, true, true, true, true, true, true, false] rfl rfl (any_of HT_.out (by kernel_rfl)) (fun _ _ _ h => h) (Or.inl ⟨by rfl, ?_⟩) ?_ ?_
        rotate_left
        · intro w'
          go_simp
          with_reducible rfl
        rotate_left
        · simp only [Act.put, List.setIfInBounds_toArray, List.set_cons_zero, List.set_cons_succ, i64_w, i32_w]
          rfl
        refine pure_ (i := 11) (N := some 11) (v := ?_) (a' := ?_) #[true, true, true, true, true, true, true, true, true, true, true, true] rfl rfl (any_of HT_.out (by kernel_rfl)) (fun _ _ _ h => h) (Or.inl ⟨by rfl, ?_⟩) ?_ ?_
        rotate_left
        · intro w'
          go_simp
          with_reducible rfl
        rotate_left
        · simp only [Act.put, List.setIfInBounds_toArray, List.set_cons_zero, List.set_cons_succ, i64_w, i32_w]
          rfl
        refine done_ (done_of HT_.out (by kernel_rfl)) ?_
        have HBE := Aside0.mk (show Below wr.heap.size wr (wd.drewN nd) from by subst hwd; exact pw_below_drewN (Below.refl _ _).drew _)
        clear hH0 hHeld hwd
        generalize wd.drewN nd = we at HBE ⊢
        have HSTE := Aside0.mk (HST1.out.below HBE.out)
        have HBX := Aside0.mk (HB1.out.to (Kept.of_below HBE.out _) (fun _ h => .inl h))
        clear xs0 xs1 xt0 xt1 xk hcr
        have xt0 := (blk_cell HBX.out.ht 0).trans rfl
        have xt1 := (blk_cell HBX.out.ht 1).trans rfl
        have xk := (blk_cell HBX.out.hk 0).trans rfl
        rw [hwcI]
        go_upto_region 7 with (first
          | ((with_reducible refine gate_callee (f := 131) rfl ?_); refine goesL_ (some 47) rfl rfl Tryd.func131 (by kernel_rfl) rfl #[.agg #[.slice At inner.length ct, .slice (some ⟨gR, 0, none⟩) outer.length outer.length], .int .i64 ((i : Int) - 1), .int .i64 cI] (by rfl) (by (try simp only [List.map_toArray, List.map_cons, List.map_nil]); rfl) ?_; refine (ENT we (HAt1.out _ (Kept.of_below HBE.out _)) (HSTE.out.rowsAt.reads (by rw [HRL.out]; omega))).mono ?_; rintro e w6 ⟨rfl, hb6⟩; refine ⟨_, rfl, ?_⟩; have HB6 := Aside0.mk (below_step HBE.out hb6); clear hb6))
        clear ENT xt0 xt1 xk HSTE HBX HBE
        have HST6 := Aside0.mk (HST1.out.below HB6.out)
        have HBX := Aside0.mk (HB1.out.to (Kept.of_below HB6.out _) (fun _ h => .inl h))
        have HAo6 := Aside0.mk (HAo1.out _ (Kept.of_below HB6.out _))
        have HAi6 := Aside0.mk (HAi1.out _ (Kept.of_below HB6.out _))
        have HBL6 := Aside0.mk (show Below B wr w6 from HB6.out.mono (by have h1 := HST1.out.rowsAt.2.1; have h2 := HST1.out.rowsAt.lt; omega))
        have xs1 := (blk_cell HBX.out.hs 1).trans rfl
        have xk := (blk_cell HBX.out.hk 0).trans rfl
        obtain ⟨op, hop⟩ : ∃ b, b = Gr.opened inner rows k i := ⟨_, rfl⟩
        obtain ⟨ap, hap⟩ : ∃ a, a = Gr.atL inner ((i : Int) - 1) := ⟨_, rfl⟩
        have ATP : ∀ W, Kd.C (Kd.int .i64) W Ai inner.length inner → Calls Tryd.prog 94 #[.slice Ai inner.length ci, .int .i64 ((i : Int) - 1)] W fun e w' => e = .returned (.int .i64 ap) ∧ Drawn0 W w' :=
          fun W hW => impl_at.calls Ai ci inner ((i : Int) - 1) ap W hW hci (by rw [hap]; exact impl_grow.at_eq inner _ (by omega))
        have hop' : op = (decide (0 < i) && (decide (ap ≤ cI) && (decide (ab = 0) || decide (ab = k)))) := by
          rw [hop, hap, HCI.out, HAB.out, HCI.out]
          rfl
        have HOP := Aside0.mk hop
        have HOP' := Aside0.mk hop'
        clear hop hop' hap
        go_cut [12, 13] (fun v12 v13 w7 => v13 = .bool op ∧ ∃ m, w7 = w6.drewN m)
        case first =>
          by_cases h1 : (0 : Int) < (i : Int)
          · have h1b : 0 < i := by omega
            by_cases h2 : ap ≤ cI
            · go_wp2_with ((with_reducible refine gate_callee (f := 94) rfl ?_); refine gate_guard (by rfl) ?_; refine goesL_ (some 56) rfl rfl Tryd.func94 (by kernel_rfl) rfl #[.slice Ai inner.length ci, .int .i64 ((i : Int) - 1)] (by rfl) (by (try simp only [List.map_toArray, List.map_cons, List.map_nil]); rfl) ?_; refine (ATP w6 HAi6.out).mono ?_; rintro e w' ⟨rfl, ⟨nd, rfl⟩⟩; refine ⟨_, rfl, ?_⟩)
              all_goals go_meet
              all_goals exact ⟨congrArg Value.bool (by rw [HOP'.out, decide_eq_true h1b, decide_eq_true h2]; first | rfl | (simp [*]; done)), _, rfl⟩
            · go_wp2_with ((with_reducible refine gate_callee (f := 94) rfl ?_); refine gate_guard (by rfl) ?_; refine goesL_ (some 56) rfl rfl Tryd.func94 (by kernel_rfl) rfl #[.slice Ai inner.length ci, .int .i64 ((i : Int) - 1)] (by rfl) (by (try simp only [List.map_toArray, List.map_cons, List.map_nil]); rfl) ?_; refine (ATP w6 HAi6.out).mono ?_; rintro e w' ⟨rfl, ⟨nd, rfl⟩⟩; refine ⟨_, rfl, ?_⟩)
              go_meet
              exact ⟨by rw [HOP'.out, decide_eq_false (show ¬ ap ≤ cI from by omega)]; simp, _, rfl⟩
          · have h1b : ¬ 0 < i := by omega
            go_wp2_with ((with_reducible refine gate_callee (f := 94) rfl ?_); refine gate_guard (by rfl) ?_; refine goesL_ (some 56) rfl rfl Tryd.func94 (by kernel_rfl) rfl #[.slice Ai inner.length ci, .int .i64 ((i : Int) - 1)] (by rfl) (by (try simp only [List.map_toArray, List.map_cons, List.map_nil]); rfl) ?_; refine (ATP w6 HAi6.out).mono ?_; rintro e w' ⟨rfl, ⟨nd, rfl⟩⟩; refine ⟨_, rfl, ?_⟩)
            go_meet
            exact ⟨by rw [HOP'.out, decide_eq_false h1b]; rfl, 0, rfl⟩
        case rest =>
          obtain ⟨rfl, m6, rfl⟩ := hcut
          have HB7 := Aside0.mk (pw_below_drewN HB6.out m6)
          clear xs1 xk ATP HBX HAo6 HAi6 HBL6 HST6
          generalize w6.drewN m6 = w7 at HB7 ⊢
          have HST7 := Aside0.mk (HST1.out.below HB7.out)
          have HBX7 := Aside0.mk (HB1.out.to (Kept.of_below HB7.out _) (fun _ h => .inl h))
          have HBL7 := Aside0.mk (show Below B wr w7 from HB7.out.mono (by have h1 := HST1.out.rowsAt.2.1; have h2 := HST1.out.rowsAt.lt; omega))
          have HK7 := Aside0.mk (Kept.of_below HB7.out (impl_grow.Mg go T1 O1))
          have xs0 := (blk_cell HBX7.out.hs 0).trans rfl
          obtain ⟨ado, eo, hxo⟩ := Kd.at_int (HAo1.out _ HK7.out) (i : Int) hi0 hlt
          cases eo
          rw [Int.toNat_natCast] at hxo
          obtain ⟨oi, hoi⟩ : ∃ o, o = rd outer (i : Int) := ⟨_, rfl⟩
          rw [← hoi] at hxo
          have HSK := Aside0.mk (show Gr.skip outer inner rows k i = (decide (cI = oi) || op) from by unfold Gr.skip; rw [HOP.out, ← HCI.out, hoi]; rfl)
          clear hoi
          have HD7 := Aside0.mk (show impl_grow.Done w w7 B go gR T O rows (ts ++ ((List.range' row (i - row)).flatMap (impl_grow.step (fun rows => Gr.growL outer inner ws rows (k + 1)) outer inner k left rows)).map (fun r => ⟨inner, r⟩)) from
            impl_grow.Done.from_ HK1.out HM1.out HBL1.out ⟨T1, O1, HST7.out, HK7.out, fun _ h => .inl h, HBL7.out⟩)
          by_cases hc : cI = oi
          · have HS := Aside0.mk (impl_grow.step_skip (fin := fun rows => Gr.growL outer inner ws rows (k + 1)) (left := left) (show Gr.skip outer inner rows k i = true from by rw [HSK.out, decide_eq_true hc]; rfl))
            subst hc
            go_wp2
            go_roundg g1
            case measure => exact Nat.lt_succ_self _
            case rel => exact ⟨i + 1, congrArg (Value.int .i64) (show (i : Int) + 1 = ((i + 1 : Nat) : Int) from (Int.natCast_succ i).symm), ⟨impl_grow.next HI.out HILT⟩, ⟨by rw [impl_grow.acc _ _ _ HI.out.1]; rw [HS.out, List.append_nil]; exact HD7.out⟩⟩
          · cases op with
            | true =>
              have HS := Aside0.mk (impl_grow.step_skip (fin := fun rows => Gr.growL outer inner ws rows (k + 1)) (left := left) (show Gr.skip outer inner rows k i = true from by rw [HSK.out, Bool.or_true]))
              go_wp2
              go_roundg g1
              case measure => exact Nat.lt_succ_self _
              case rel => exact ⟨i + 1, congrArg (Value.int .i64) (show (i : Int) + 1 = ((i + 1 : Nat) : Int) from (Int.natCast_succ i).symm), ⟨impl_grow.next HI.out HILT⟩, ⟨by rw [impl_grow.acc _ _ _ HI.out.1]; rw [HS.out, List.append_nil]; exact HD7.out⟩⟩
            | false =>
              have HS := Aside0.mk (impl_grow.step_go (fin := fun rows => Gr.growL outer inner ws rows (k + 1)) (left := left) (show Gr.skip outer inner rows k i = false from by rw [HSK.out, decide_eq_false hc]; rfl))
              go_wp2
              obtain ⟨A9, c9, hcr9, hown9, hblk9⟩ := HST7.out.rowsAt.row i (by rw [HRL.out]; exact HILT)
              rw [← HXS.out] at hcr9 hown9 hblk9
              have HOWN9 := Aside0.mk hown9
              have HBLK9 := Aside0.mk hblk9
              have HNV := Aside0.mk (show ∀ g, ¬ impl_grow.Mg go T1 O1 g → some g ≠ (Value.slice A9 xs.length c9).ownBlock from fun g hg e => hg (.inl (hblk9 g e.symm).1))
              clear hown9 hblk9
              have xt1 := (blk_cell HBX7.out.ht 1).trans rfl
              have xk := (blk_cell HBX7.out.hk 0).trans rfl
              refine start_ (n := 13) (S := fun w' => w'.cell? ⟨bt, 1, none⟩ = some (.slice (some ⟨gR, 0, none⟩) outer.length outer.length) ∧ w'.cell? ⟨gR, i, none⟩ = some (.slice A9 xs.length c9) ∧ w'.cell? ⟨bk, 0, none⟩ = some (.int .i64 k)) (ds := [12]) #[false, false, false, false, false, false, false, false, false, false, false, false, false] (by kernel_rfl) rfl rfl (⟨xt1, hcr9, xk⟩) (fun hHeld => ?_); refine with_tabW impl_tableaux.tab160_9 impl_tableaux.bits160_9 (fun HT_ HW_ => ?_)
              have HB8 := Aside0.mk (show Below w7.heap.size w7 w7.drew from (Below.refl _ _).drew)
              generalize w7.drew = w8 at HB8 hHeld ⊢
              clear xs0 xt1 xk hcr9 hxo
              refine pure_ (i := 0) (N := some 78) (v := ?_) (a' := ?_) #[true, false, false, false, false, false, false, false, false, false, false, false, false] rfl rfl (any_of HT_.out (by kernel_rfl)) (fun _ _ _ h => h) (Or.inl ⟨by rfl, ?_⟩) ?_ ?_
              rotate_left
              · intro w'
                go_simp
                with_reducible rfl
              rotate_left
              · simp only [Act.put, List.setIfInBounds_toArray, List.set_cons_zero, List.set_cons_succ, i64_w, i32_w]
                rfl
              refine pure_ (i := 2) (N := some 80) (v := ?_) (a' := ?_) #[true, false, true, false, false, false, false, false, false, false, false, false, false] rfl rfl (any_of HT_.out (by kernel_rfl)) (fun _ _ _ h => h) (Or.inl ⟨by rfl, ?_⟩) ?_ ?_
              rotate_left
              · intro w'
                go_simp
                with_reducible rfl
              rotate_left
              · simp only [Act.put, List.setIfInBounds_toArray, List.set_cons_zero, List.set_cons_succ, i64_w, i32_w]
                rfl
              refine pure_ (i := 3) (N := some 81) (v := ?_) (a' := ?_) #[true, false, true, true, false, false, false, false, false, false, false, false, false] rfl rfl (any_of HT_.out (by kernel_rfl)) (fun _ _ _ h => h) (Or.inl ⟨by rfl, ?_⟩) ?_ ?_
              rotate_left
              · intro w'
                go_simp
                with_reducible rfl
              rotate_left
              · simp only [Act.put, List.setIfInBounds_toArray, List.set_cons_zero, List.set_cons_succ, i64_w, i32_w]
                rfl
              refine pure_ (i := 5) (N := some 83) (v := ?_) (a' := ?_) #[true, false, true, true, false, true, false, false, false, false, false, false, false] rfl rfl (any_of HT_.out (by kernel_rfl)) (fun _ _ _ h => h) (Or.inl ⟨by rfl, ?_⟩) ?_ ?_
              rotate_left
              · intro w'
                go_simp
                with_reducible rfl
              rotate_left
              · simp only [Act.put, List.setIfInBounds_toArray, List.set_cons_zero, List.set_cons_succ, i64_w, i32_w]
                rfl
              refine take_ (i := 1) (N := some 79) (v := ?_) (a' := ?_) #[true, true, true, true, false, true, false, false, false, false, false, false, false] rfl rfl (take_ofW HT_.out HW_.out (by kernel_rfl)) (fun _ _ _ h => h) (Or.inl ⟨by rfl, ?_⟩) hHeld ?_ ?_
              rotate_left
              · rintro w' ⟨s0, s1, s2⟩
                go_simp
                with_reducible rfl
              rotate_left
              · simp only [Act.put, List.setIfInBounds_toArray, List.set_cons_zero, List.set_cons_succ, i64_w, i32_w]
                rfl
              refine take_ (i := 4) (N := some 82) (v := ?_) (a' := ?_) #[true, true, true, true, true, true, false, false, false, false, false, false, false] rfl rfl (take_ofW HT_.out HW_.out (by kernel_rfl)) (fun _ _ _ h => h) (Or.inl ⟨by rfl, ?_⟩) hHeld ?_ ?_
              rotate_left
              · rintro w' ⟨s0, s1, s2⟩
                go_simp
                with_reducible rfl
              rotate_left
              · simp only [Act.put, List.setIfInBounds_toArray, List.set_cons_zero, List.set_cons_succ, i64_w, i32_w]
                rfl
              refine pure_ (i := 6) (N := some 84) (v := ?_) (a' := ?_) #[true, true, true, true, true, true, true, false, false, false, false, false, false] rfl rfl (any_of HT_.out (by kernel_rfl)) (fun _ _ _ h => h) (Or.inl ⟨by rfl, ?_⟩) ?_ ?_
              rotate_left
              · intro w'
                go_simp
                with_reducible rfl
              rotate_left
              · simp only [Act.put, List.setIfInBounds_toArray, List.set_cons_zero, List.set_cons_succ, i64_w, i32_w]
                rfl
              refine take_ (i := 7) (N := some 85) (v := ?_) (a' := ?_) #[true, true, true, true, true, true, true, true, false, false, false, false, false] rfl rfl (take_ofW HT_.out HW_.out (by kernel_rfl)) (fun _ _ _ h => h) (Or.inl ⟨by rfl, ?_⟩) hHeld ?_ ?_
              rotate_left
              · rintro w' ⟨s0, s1, s2⟩
                go_simp
                with_reducible rfl
              rotate_left
              · simp only [Act.put, List.setIfInBounds_toArray, List.set_cons_zero, List.set_cons_succ, i64_w, i32_w]
                rfl
              refine take_ (i := 8) (N := some 86) (v := ?_) (a' := ?_) #[true, true, true, true, true, true, true, true, true, false, false, false, false] rfl rfl (take_ofW HT_.out HW_.out (by kernel_rfl)) (fun _ _ _ h => h) (Or.inl ⟨by rfl, ?_⟩) hHeld ?_ ?_
              rotate_left
              · rintro w' ⟨s0, s1, s2⟩
                go_simp
                with_reducible rfl
              rotate_left
              · simp only [Act.put, List.setIfInBounds_toArray, List.set_cons_zero, List.set_cons_succ, i64_w, i32_w]
                rfl
              have HST8 := Aside0.mk (HST7.out.below HB8.out)
              have HBX8 := Aside0.mk (HBX7.out.to (Kept.of_below HB8.out _) (fun _ h => .inl h))
              have HBL8 := Aside0.mk (show Below B wr w8 from HBL7.out.trans (HB8.out.mono (by have h1 := HST7.out.rowsAt.2.1; have h2 := HST7.out.rowsAt.lt; omega)))
              have HC8 := Aside0.mk hHeld
              refine one_ (i := 9) (N := some 87) #[true, true, true, true, true, true, true, true, true, true, false, false, false] rfl rfl (one_of HT_.out (by kernel_rfl)) (by decide) (fun K hK => ?_)
              refine value_ (w1 := ?_) (v := ?_) (by rfl) rfl ?_ ?_
              rotate_left 2
              · go_simp
                constructor
                · rfl
                · rfl
              refine hK.out _ _ ⟨(blk_cell (blk_alloc HBX8.out.ht _) 1).trans rfl, (Below.cell (below_alloc (Below.refl _ _) _) HST8.out.rowsAt.lt).trans HC8.out.2.1, (blk_cell (blk_alloc HBX8.out.hk _) 0).trans rfl⟩ (fun hHeld => ?_)
              clear hK K
              refine norm_ (a' := ?_) ?_ ?_
              rotate_left
              · show Act.put _ (some 87) _ = _
                simp only [Act.put, List.setIfInBounds_toArray, List.set_cons_zero, List.set_cons_succ, i64_w, i32_w]
                rfl
              refine one_ (i := 10) (N := some 88) #[true, true, true, true, true, true, true, true, true, true, true, false, false] rfl rfl (one_of HT_.out (by kernel_rfl)) (by decide) (fun K hK => ?_)
              refine Kd.R_append_step (Kd.int .i64) (w0 := w8) B (by rfl) (.tmp 85) (.tmp 87) 22 3 (.int .i64 0) 8 rfl Tryd.underlying22 HINF.out rfl (by decide) (by omega) (.slice A9 xs.length c9) xs k [.int .i64 k] (fun _ => True) (fun _ => False) rfl rfl ?aP ?aK ?aF ?aO ?aB ?aS ?aL ?_
              (case aP => rfl)
              (case aK => exact fun _ h => h.elim)
              (case aF => exact fun _ _ => trivial)
              (case aO => exact Kd.R_below (Kd.R_of_own HOWN9.out (fun _ _ => trivial)) HB8.out)
              (case aB => exact Below.refl _ _)
              (case aS => have h1 := HST8.out.rowsAt.2.1; have h2 := HST8.out.rowsAt.lt; omega)
              (case aL => omega)
              intro v11 w11 hR11 hb11 hg11 hat11
              have hgv : some gR ≠ (Value.slice A9 xs.length c9).ownBlock := fun e => (HBLK9.out gR e.symm).2 rfl
              obtain ⟨ys, hys⟩ : ∃ ys, ys = xs ++ [k] := ⟨_, rfl⟩
              rw [← hys] at hR11
              have HYS := Aside0.mk hys
              clear hys
              obtain ⟨T12, hst12, hk12, hM12, hb12⟩ := HST8.out.put i (by rw [HRL.out]; exact HILT) HC8.out.2.1 (fun k hk => (HBLK9.out k hk).1) hg11 hb11 (Kd.own_of_R hR11) hat11
              obtain ⟨A11, n11, c11, hv11⟩ : ∃ A n c, v11 = .slice A n c := (by obtain ⟨A, c, h⟩ := Kd.R_slice hR11; exact ⟨A, _, c, h⟩)
              subst hv11
              have HGR := Aside0.mk (hg11.block gR HST8.out.rowsAt.lt hgv)
              have HC11 := Aside0.mk ((World.cell?_of_block (w := w8) (w' := w11) (a := ⟨gR, i, none⟩) HGR.out).trans HC8.out.2.1)
              have HF11 := Aside0.mk (show w11.frozen? ⟨gR, i, none⟩ = false from by
                obtain ⟨_, _, vs, _, hh, _⟩ := HST8.out.rowsAt
                exact blk_frozen (HGR.out.trans hh) i)
              have HST12 := Aside0.mk hst12
              have HK12 := Aside0.mk ((Kept.of_below (below_step HB7.out HB8.out) _).then_ hk12 (fun _ h => .inl h))
              have HM12 := Aside0.mk (fun k h => (hM12 k h).imp id (Nat.le_trans (below_step HB7.out HB8.out).size))
              have HBL12 := Aside0.mk (HBL8.out.trans hb12)
              refine hK.out _ _ ⟨(blk_cell (blk_grown HBX8.out.ht hg11 (HNV.out _ HBX8.out.hnt)) 1).trans rfl, HC11.out, (blk_cell (blk_grown HBX8.out.hk hg11 (HNV.out _ HBX8.out.hnk)) 0).trans rfl⟩ (fun hHeld => ?_)
              clear hK K hst12 hk12 hM12 hb12 hR11 hb11 hg11 hat11 hgv
              refine norm_ (a' := ?_) ?_ ?_
              rotate_left
              · show Act.put _ (some 88) _ = _
                simp only [Act.put, List.setIfInBounds_toArray, List.set_cons_zero, List.set_cons_succ, i64_w, i32_w]
                rfl
              refine pure_ (i := 11) (N := some 89) (v := ?_) (a' := ?_) #[true, true, true, true, true, true, true, true, true, true, true, true, false] rfl rfl (any_of HT_.out (by kernel_rfl)) (fun _ _ _ h => h) (Or.inl ⟨by rfl, ?_⟩) ?_ ?_
              rotate_left
              · intro w'
                go_simp
                with_reducible rfl
              rotate_left
              · simp only [Act.put, List.setIfInBounds_toArray, List.set_cons_zero, List.set_cons_succ, i64_w, i32_w]
                rfl
              refine last_ (i := 12) (N := none) #[true, true, true, true, true, true, true, true, true, true, true, true, true] rfl rfl (one_of HT_.out (by kernel_rfl)) (by decide) (fun K hK => ?_)
              have hs12 := HC11.out
              have hf12 := HF11.out
              refine skip_ (w1 := ?_) (by rfl) rfl ?_ ?_
              rotate_left
              · go_simp
                rfl
              refine hK.out _ _ ?_
              clear hK K hs12 hf12
              refine done_ (done_of HT_.out (by kernel_rfl)) ?_
              generalize w11.setCell ⟨gR, i, none⟩ (.slice A11 n11 c11) = w12 at HST12 HK12 HM12 HBL12 ⊢
              have HBX12 := Aside0.mk (HB1.out.to HK12.out HM12.out)
              have xp := (blk_cell HBX12.out.hp 0).trans rfl
              have hlfb : 1 ≤ lf ∧ lf ≤ 1000 := by
                have h1 := HLF.out
                have h2 := HRS.out (rows.getD i []) (by have : i < rows.length := by rw [HRL.out]; exact HILT
                                                        simp [List.getD, this])
                omega
              have HL1 := Aside0.mk (show lf - 1 = (left : Int) from by have h1 := HLF.out; omega)
              have HCALL := Aside0.mk (IH.out i (rows.set i ys) (ts ++ ((List.range' row (i - row)).flatMap (impl_grow.step (fun rows => Gr.growL outer inner ws rows (k + 1)) outer inner k left rows)).map (fun r => ⟨inner, r⟩)) T12 O1 w12 HST12.out (by rw [List.length_set]; exact HRL.out) (Nat.le_of_lt HILT)
                (by rw [HYS.out, HXS.out]; exact impl_grow.bound_set HRS.out (by rw [HRL.out]; exact HILT))
                (by have h1 := HTS.out
                    have h2 := impl_grow.acc_le (impl_grow.step (fun rows => Gr.growL outer inner ws rows (k + 1)) outer inner k left rows) row i outer.length HI.out.1 HILT
                    rw [HS.out] at h2
                    rw [HYS.out, HXS.out, List.length_append, List.length_map]
                    have h3 : (Gr.putL (fun rows => Gr.growL outer inner ws rows (k + 1)) outer inner k (left + 1) rows row) = (List.range' row (outer.length - row)).flatMap (impl_grow.step (fun rows => Gr.growL outer inner ws rows (k + 1)) outer inner k left rows) := rfl
                    rw [h3] at h1
                    omega)
                (HAo1.out.to HK12.out HM12.out) (HAi1.out.to HK12.out HM12.out) (HAt1.out.to HK12.out HM12.out) (HAw1.out.to HK12.out HM12.out) HBX12.out)
              go_wp2_with (go_at_call 160; rw [HL1.out]; refine HCALL.out.mono ?_; rintro e w13 ⟨rfl, hD13⟩; have HD13 := Aside0.mk hD13; clear hD13)
              obtain ⟨T13, O13, hst13, hk13, hM13, hb13⟩ := HD13.out
              have HST13 := Aside0.mk hst13
              have HK13 := Aside0.mk (HK12.out.then_ hk13 HM12.out)
              have HM13 := Aside0.mk (fun k h => (hM13 k h).elim (HM12.out k) (fun h => .inr (Nat.le_trans HK12.out.1 h)))
              have HBL13 := Aside0.mk (HBL12.out.trans hb13)
              have HBX13 := Aside0.mk (HBX12.out.to hk13 hM13)
              clear hst13 hk13 hM13 hb13 HD13 xp HCALL
              obtain ⟨A14, c14, hcr14, hown14, hblk14⟩ := HST13.out.rowsAt.row i (by rw [List.length_set, HRL.out]; exact HILT)
              have hysl : ys.length = xs.length + 1 := by rw [HYS.out]; simp
              rw [impl_grow.getD_set rows i ys (by rw [HRL.out]; exact HILT), hysl] at hcr14 hown14 hblk14
              have HOWN14 := Aside0.mk hown14
              have HBLK14 := Aside0.mk hblk14
              have HYL := Aside0.mk hysl
              clear hown14 hblk14 hysl
              have hsl : ∀ W, Sem.run Tryd.prog (Instr.slice 22 (.slice A14 (xs.length + 1) c14) none (some (.int .i64 (xs.length : Int))) none) W = .ok (.slice A14 xs.length c14) W := impl_grow.cutrun HINF.out Tryd.underlying22 HYL.out HOWN14.out
              have HSL := Aside0.mk hsl
              clear hsl
              have xt1 := (blk_cell HBX13.out.ht 1).trans rfl
              refine start_ (n := 18) (S := fun w' => w'.cell? ⟨bt, 1, none⟩ = some (.slice (some ⟨gR, 0, none⟩) outer.length outer.length) ∧ w'.cell? ⟨gR, i, none⟩ = some (.slice A14 (xs.length + 1) c14)) (ds := [17]) #[false, false, false, false, false, false, false, false, false, false, false, false, false, false, false, false, false, false] (by kernel_rfl) rfl rfl (⟨xt1, hcr14⟩) (fun hHeld => ?_); refine with_tabW impl_tableaux.tab160_11 impl_tableaux.bits160_11 (fun HT_ HW_ => ?_)
              have HB14 := Aside0.mk (show Below w13.heap.size w13 w13.drew from (Below.refl _ _).drew)
              generalize w13.drew = w14 at HB14 hHeld ⊢
              clear xt1 hcr14
              have HC14 := Aside0.mk hHeld
              refine pure_ (i := 0) (N := some 95) (v := ?_) (a' := ?_) #[true, false, false, false, false, false, false, false, false, false, false, false, false, false, false, false, false, false] rfl rfl (any_of HT_.out (by kernel_rfl)) (fun _ _ _ h => h) (Or.inl ⟨by rfl, ?_⟩) ?_ ?_
              rotate_left
              · intro w'
                go_simp
                with_reducible rfl
              rotate_left
              · simp only [Act.put, List.setIfInBounds_toArray, List.set_cons_zero, List.set_cons_succ, i64_w, i32_w]
                rfl
              refine pure_ (i := 2) (N := some 97) (v := ?_) (a' := ?_) #[true, false, true, false, false, false, false, false, false, false, false, false, false, false, false, false, false, false] rfl rfl (any_of HT_.out (by kernel_rfl)) (fun _ _ _ h => h) (Or.inl ⟨by rfl, ?_⟩) ?_ ?_
              rotate_left
              · intro w'
                go_simp
                with_reducible rfl
              rotate_left
              · simp only [Act.put, List.setIfInBounds_toArray, List.set_cons_zero, List.set_cons_succ, i64_w, i32_w]
                rfl
              refine pure_ (i := 3) (N := some 98) (v := ?_) (a' := ?_) #[true, false, true, true, false, false, false, false, false, false, false, false, false, false, false, false, false, false] rfl rfl (any_of HT_.out (by kernel_rfl)) (fun _ _ _ h => h) (Or.inl ⟨by rfl, ?_⟩) ?_ ?_
              rotate_left
              · intro w'
                go_simp
                with_reducible rfl
              rotate_left
              · simp only [Act.put, List.setIfInBounds_toArray, List.set_cons_zero, List.set_cons_succ, i64_w, i32_w]
                rfl
              refine pure_ (i := 5) (N := some 100) (v := ?_) (a' := ?_) #[true, false, true, true, false, true, false, false, false, false, false, false, false, false, false, false, false, false] rfl rfl (any_of HT_.out (by kernel_rfl)) (fun _ _ _ h => h) (Or.inl ⟨by rfl, ?_⟩) ?_ ?_
              rotate_left
              · intro w'
                go_simp
                with_reducible rfl
              rotate_left
              · simp only [Act.put, List.setIfInBounds_toArray, List.set_cons_zero, List.set_cons_succ, i64_w, i32_w]
                rfl
              refine pure_ (i := 8) (N := some 103) (v := ?_) (a' := ?_) #[true, false, true, true, false, true, false, false, true, false, false, false, false, false, false, false, false, false] rfl rfl (any_of HT_.out (by kernel_rfl)) (fun _ _ _ h => h) (Or.inl ⟨by rfl, ?_⟩) ?_ ?_
              rotate_left
              · intro w'
                go_simp
                with_reducible rfl
              rotate_left
              · simp only [Act.put, List.setIfInBounds_toArray, List.set_cons_zero, List.set_cons_succ, i64_w, i32_w]
                rfl
              refine pure_ (i := 10) (N := some 105) (v := ?_) (a' := ?_) #[true, false, true, true, false, true, false, false, true, false, true, false, false, false, false, false, false, false] rfl rfl (any_of HT_.out (by kernel_rfl)) (fun _ _ _ h => h) (Or.inl ⟨by rfl, ?_⟩) ?_ ?_
              rotate_left
              · intro w'
                go_simp
                with_reducible rfl
              rotate_left
              · simp only [Act.put, List.setIfInBounds_toArray, List.set_cons_zero, List.set_cons_succ, i64_w, i32_w]
                rfl
              refine take_ (i := 1) (N := some 96) (v := ?_) (a' := ?_) #[true, true, true, true, false, true, false, false, true, false, true, false, false, false, false, false, false, false] rfl rfl (take_ofW HT_.out HW_.out (by kernel_rfl)) (fun _ _ _ h => h) (Or.inl ⟨by rfl, ?_⟩) hHeld ?_ ?_
              rotate_left
              · rintro w' ⟨s0, s1⟩
                go_simp
                with_reducible rfl
              rotate_left
              · simp only [Act.put, List.setIfInBounds_toArray, List.set_cons_zero, List.set_cons_succ, i64_w, i32_w]
                rfl
              refine take_ (i := 4) (N := some 99) (v := ?_) (a' := ?_) #[true, true, true, true, true, true, false, false, true, false, true, false, false, false, false, false, false, false] rfl rfl (take_ofW HT_.out HW_.out (by kernel_rfl)) (fun _ _ _ h => h) (Or.inl ⟨by rfl, ?_⟩) hHeld ?_ ?_
              rotate_left
              · rintro w' ⟨s0, s1⟩
                go_simp
                with_reducible rfl
              rotate_left
              · simp only [Act.put, List.setIfInBounds_toArray, List.set_cons_zero, List.set_cons_succ, i64_w, i32_w]
                rfl
              refine take_ (i := 9) (N := some 104) (v := ?_) (a' := ?_) #[true, true, true, true, true, true, false, false, true, true, true, false, false, false, false, false, false, false] rfl rfl (take_ofW HT_.out HW_.out (by kernel_rfl)) (fun _ _ _ h => h) (Or.inl ⟨by rfl, ?_⟩) hHeld ?_ ?_
              rotate_left
              · rintro w' ⟨s0, s1⟩
                go_simp
                with_reducible rfl
              rotate_left
              · simp only [Act.put, List.setIfInBounds_toArray, List.set_cons_zero, List.set_cons_succ, i64_w, i32_w]
                rfl
              refine pure_ (i := 6) (N := some 101) (v := ?_) (a' := ?_) #[true, true, true, true, true, true, true, false, true, true, true, false, false, false, false, false, false, false] rfl rfl (any_of HT_.out (by kernel_rfl)) (fun _ _ _ h => h) (Or.inl ⟨by rfl, ?_⟩) ?_ ?_
              rotate_left
              · intro w'
                go_simp
                with_reducible rfl
              rotate_left
              · simp only [Act.put, List.setIfInBounds_toArray, List.set_cons_zero, List.set_cons_succ, i64_w, i32_w]
                rfl
              refine pure_ (i := 11) (N := some 106) (v := ?_) (a' := ?_) #[true, true, true, true, true, true, true, false, true, true, true, true, false, false, false, false, false, false] rfl rfl (any_of HT_.out (by kernel_rfl)) (fun _ _ _ h => h) (Or.inl ⟨by rfl, ?_⟩) ?_ ?_
              rotate_left
              · intro w'
                go_simp
                with_reducible rfl
              rotate_left
              · simp only [Act.put, List.setIfInBounds_toArray, List.set_cons_zero, List.set_cons_succ, i64_w, i32_w]
                rfl
              refine take_ (i := 7) (N := some 102) (v := ?_) (a' := ?_) #[true, true, true, true, true, true, true, true, true, true, true, true, false, false, false, false, false, false] rfl rfl (take_ofW HT_.out HW_.out (by kernel_rfl)) (fun _ _ _ h => h) (Or.inl ⟨by rfl, ?_⟩) hHeld ?_ ?_
              rotate_left
              · rintro w' ⟨s0, s1⟩
                go_simp
                with_reducible rfl
              rotate_left
              · simp only [Act.put, List.setIfInBounds_toArray, List.set_cons_zero, List.set_cons_succ, i64_w, i32_w]
                rfl
              refine take_ (i := 12) (N := some 107) (v := ?_) (a' := ?_) #[true, true, true, true, true, true, true, true, true, true, true, true, true, false, false, false, false, false] rfl rfl (take_ofW HT_.out HW_.out (by kernel_rfl)) (fun _ _ _ h => h) (Or.inl ⟨by rfl, ?_⟩) hHeld ?_ ?_
              rotate_left
              · rintro w' ⟨s0, s1⟩
                go_simp
                with_reducible rfl
              rotate_left
              · simp only [Act.put, List.setIfInBounds_toArray, List.set_cons_zero, List.set_cons_succ, i64_w, i32_w]
                rfl
              have hwx : wrap64 (xs.length : Int) = (xs.length : Int) := impl_grow.w64 _ (by omega) (by omega)
              refine pure_ (i := 13) (N := some 108) (v := ?_) (a' := ?_) #[true, true, true, true, true, true, true, true, true, true, true, true, true, true, false, false, false, false] rfl rfl (any_of HT_.out (by kernel_rfl)) (fun _ _ _ h => h) (Or.inl ⟨by rfl, ?_⟩) ?_ ?_
              rotate_left
              · intro w'
                go_simp
                with_reducible rfl
              rotate_left
              · simp only [Act.put, List.setIfInBounds_toArray, List.set_cons_zero, List.set_cons_succ, i64_w, i32_w]
                rfl
              refine pure_ (i := 14) (N := some 109) (v := ?_) (a' := ?_) #[true, true, true, true, true, true, true, true, true, true, true, true, true, true, true, false, false, false] rfl rfl (any_of HT_.out (by kernel_rfl)) (fun _ _ _ h => h) (Or.inl ⟨by rfl, ?_⟩) ?_ ?_
              rotate_left
              · intro w'
                go_simp
                with_reducible rfl
              rotate_left
              · simp only [Act.put, List.setIfInBounds_toArray, List.set_cons_zero, List.set_cons_succ, i64_w, i32_w]
                rfl
              rw [hwx]
              have hsl := HSL.out
              refine pure_ (i := 15) (N := some 110) (v := ?_) (a' := ?_) #[true, true, true, true, true, true, true, true, true, true, true, true, true, true, true, true, false, false] rfl rfl (any_of HT_.out (by kernel_rfl)) (fun _ _ _ h => h) (Or.inl ⟨by rfl, ?_⟩) ?_ ?_
              rotate_left
              · intro w'
                go_simp
                with_reducible rfl
              rotate_left
              · simp only [Act.put, List.setIfInBounds_toArray, List.set_cons_zero, List.set_cons_succ, i64_w, i32_w]
                rfl
              refine pure_ (i := 16) (N := some 111) (v := ?_) (a' := ?_) #[true, true, true, true, true, true, true, true, true, true, true, true, true, true, true, true, true, false] rfl rfl (any_of HT_.out (by kernel_rfl)) (fun _ _ _ h => h) (Or.inl ⟨by rfl, ?_⟩) ?_ ?_
              rotate_left
              · intro w'
                go_simp
                with_reducible rfl
              rotate_left
              · simp only [Act.put, List.setIfInBounds_toArray, List.set_cons_zero, List.set_cons_succ, i64_w, i32_w]
                rfl
              clear hwx
              refine last_ (i := 17) (N := none) #[true, true, true, true, true, true, true, true, true, true, true, true, true, true, true, true, true, true] rfl rfl (one_of HT_.out (by kernel_rfl)) (by decide) (fun K hK => ?_)
              have HST14 := Aside0.mk (HST13.out.below HB14.out)
              have hs17 := HC14.out.2
              have hf17 : w14.frozen? ⟨gR, i, none⟩ = false := (by
                obtain ⟨_, _, vs, _, hh, _⟩ := HST14.out.rowsAt
                exact blk_frozen hh i)
              obtain ⟨T15, hst15, hk15, hM15, hb15⟩ := HST14.out.put i (by rw [List.length_set, HRL.out]; exact HILT) HC14.out.2 (fun k hk => (HBLK14.out k hk).1) (World.grownBy.refl w14 _) (Below.refl _ _) (v1 := .slice A14 xs.length c14) (ys := xs) (impl_grow.own_cut (by rw [HYS.out]) HYL.out (own_move HOWN14.out (fun k hk => HB14.out.block k (own_lt HOWN14.out k hk)))) (.inl (impl_grow.own_same _ _ _ _))
              have HST15 := Aside0.mk hst15
              have HK15 := Aside0.mk hk15
              have HM15 := Aside0.mk hM15
              have HBL15 := Aside0.mk hb15
              clear hst15 hk15 hM15 hb15
              refine skip_ (w1 := ?_) (by rfl) rfl ?_ ?_
              rotate_left
              · go_simp
                rfl
              refine hK.out _ _ ?_
              clear hK K hs17 hf17
              refine done_ (done_of HT_.out (by kernel_rfl)) ?_
              go_wp2
              go_roundg g1
              case measure => exact Nat.lt_succ_self _
              case rel => exact ⟨i + 1, congrArg (Value.int .i64) (show (i : Int) + 1 = ((i + 1 : Nat) : Int) from (Int.natCast_succ i).symm), ⟨impl_grow.next HI.out HILT⟩, ⟨by
                have hst := HST15.out
                rw [impl_grow.set_back rows i ys xs HXS.out (by rw [HRL.out]; exact HILT)] at hst
                rw [impl_grow.acc _ _ _ HI.out.1, HS.out, List.map_append, ← List.append_assoc, ← HXS.out, ← HYS.out]
                have hk14 := HK13.out.below HB14.out
                have hb14 := HBL13.out.trans (HB14.out.mono (show B ≤ w13.heap.size by have h1 := HST13.out.rowsAt.2.1; have h2 := HST13.out.rowsAt.lt; omega))
                exact impl_grow.Done.from_ HK1.out HM1.out HBL1.out ⟨T15, O13, hst, hk14.then_ HK15.out HM13.out, fun k h => (HM15.out k h).elim (HM13.out k) (fun h => .inr (Nat.le_trans hk14.1 h)), hb14.trans HBL15.out⟩⟩⟩
      · have hE : i = outer.length := by have := HI.out; omega
        subst hE
        go_wp2
        go_end0
        exact ⟨rfl, T1, O1, HST1.out, HK1.out, HM1.out, HBL1.out⟩
theorem impl_grow.own_loop (rows : List (List Int)) (hr : rows.length ≤ 1000) (hrs : ∀ r ∈ rows, r.length ≤ 1000) (r1 : List Int) : ∀ (m i : Nat), i + m = rows.length → impl_Tableau_own.l0 (m + 1) rows (rows.length : Int) (i : Int) r1 (rows.take i) = some (r1, rows) := by
  intro m
  induction m with
  | zero =>
    intro i hi
    unfold impl_Tableau_own.l0
    rw [if_neg (by omega), List.take_of_length_le (by omega)]
  | succ m ih =>
    intro i hi
    have hlt : i < rows.length := by omega
    have hrd : rd_L3 rows (i : Int) = rows[i] := by simp [rd_L3, List.getD, hlt]
    unfold impl_Tableau_own.l0
    rw [if_pos (by omega), if_pos (by omega), if_pos (by omega), hrd]
    unfold slices_Clone_int_int.f
    have := hrs rows[i] (List.getElem_mem hlt)
    rw [if_pos (by omega), Option.bind_some, if_pos (by rw [List.length_take]; omega), impl_grow.w64 _ (by omega) (by omega)]
    have h := ih (i + 1) (by omega)
    rw [List.take_succ_eq_append_getElem hlt] at h
    exact h
theorem impl_grow.own_eq (inner : List Int) (rows : List (List Int)) (hi : inner.length ≤ 1000) (hr : rows.length ≤ 1000) (hrs : ∀ r ∈ rows, r.length ≤ 1000) : impl_Tableau_own.f (rows.length + 1) inner rows = some (inner, rows) := by
  unfold impl_Tableau_own.f slices_Clone_int_int.f
  rw [if_pos (by omega)]
  exact impl_grow.own_loop rows hr hrs inner rows.length 0 (by omega)
theorem impl_grow.S_some {α : Type} {d : Kd α} {e base : Nat} {w : World} {ok : Nat → Prop} {v : Value} {xs : List α} (h : Kd.S d e w base ok v xs) (hx : 0 < xs.length) : v.ownBlock ≠ none := by
  obtain ⟨ad, c, rfl⟩ := Kd.R_slice1 (Kd.S_R h) hx
  simp [Value.ownBlock]
def impl_tableaux.T137_2 : Bool × List (List Nat × List Nat) := (true, [([], []), ([], []), ([1], [1]), ([0, 2, 2], [0, 2])])
def impl_tableaux.B137_2 : List Nat := [0, 0, 2, 7]
theorem impl_tableaux.tab137_2 : rtab .any (opsOf Tryd.f137 2) = impl_tableaux.T137_2 := by kernel_rfl
theorem impl_tableaux.bits137_2 : waitsOk impl_tableaux.T137_2.2 impl_tableaux.B137_2 = true := by kernel_rfl
def impl_tableaux.T137_5 : Bool × List (List Nat × List Nat) := (true, [([], []), ([], []), ([1], [1]), ([2], [2]), ([0, 3], [0, 3])])
def impl_tableaux.B137_5 : List Nat := [0, 0, 2, 6, 15]
theorem impl_tableaux.tab137_5 : rtab .any (opsOf Tryd.f137 5) = impl_tableaux.T137_5 := by kernel_rfl
theorem impl_tableaux.bits137_5 : waitsOk impl_tableaux.T137_5.2 impl_tableaux.B137_5 = true := by kernel_rfl
set_option maxHeartbeats 4000000 in
set_option maxRecDepth 100000 in
theorem impl_grow.nil_ok (B go gR : Nat) (outer inner : List Int) (Ao Ai At : Option Addr) (co ci ct : Nat) (hct : inner.length ≤ ct) (hlo : outer.length ≤ 1000) (hli : inner.length ≤ 1000) : impl_grow.Ok B go gR outer inner Ao Ai At co ci ct [] := by
  intro k rows ts T O w Aw cw hst hrl hrs hk0 hk1 hts hAo hAi hAt hAw hcw
  have hu38 := Tryd.underlying38
  have hu56 := Tryd.underlying56
  have HST := Aside0.mk hst
  have HAt := Aside0.mk hAt
  have HRS := Aside0.mk hrs
  have HTS := Aside0.mk hts
  have HRL := Aside0.mk hrl
  clear hst hAo hAi hAt hAw hrs hts hrl
  go_enter Tryd.func137, Tryd.ntmps137
  go_wp2_with (first
    | ((with_reducible refine gate_dst (N := 5) rfl ?_); refine box_event ?hg (N := 5) ?hd (cs := #[.slice Ao outer.length co, .slice Ai inner.length ci]) (t := 38) ?hr ?_; (case hd => rfl); (case hg => rfl); (case hr => first | (go_simp; done) | (go_simp; rfl)); intro g5 h5 w5 hb5 hl5; have L5 := Aside0.mk hl5; clear hb5 hl5 h5)
    | ((with_reducible refine gate_dst (N := 6) rfl ?_); refine box_event ?hg (N := 6) ?hd (cs := #[.slice At inner.length ct, .slice (some ⟨gR, 0, none⟩) outer.length outer.length]) (t := 56) ?hr ?_; (case hd => rfl); (case hg => rfl); (case hr => first | (go_simp; done) | (go_simp; rfl)); intro g6 h6 w6 hb6 hl6; have B6 := Aside0.mk hb6; have L6 := Aside0.mk (below_step L5.out hl6); clear hb6 hl6 h6)
    | ((with_reducible refine gate_dst (N := 7) rfl ?_); refine box_event ?hg (N := 7) ?hd (cs := #[.int .i64 k]) (t := 3) ?hr ?_; (case hd => rfl); (case hg => rfl); (case hr => first | (go_simp; done) | (go_simp; rfl)); intro g7 h7 w7 hb7 hl7; have L7 := Aside0.mk (below_step L6.out hl7); have B67 := Aside0.mk (blk_below B6.out hl7); clear hb7 hl7 h7)
    | ((with_reducible refine gate_dst (N := 8) rfl ?_); refine box_event ?hg (N := 8) ?hd (cs := #[.slice Aw 0 cw]) (t := 22) ?hr ?_; (case hd => rfl); (case hg => rfl); (case hr => first | (go_simp; done) | (go_simp; rfl)); intro g8 h8 w8 hb8 hl8; have L8 := Aside0.mk (below_step L7.out hl8); have B68 := Aside0.mk (blk_below B67.out hl8); have B88 := Aside0.mk hb8; clear hb8 hl8 h8)
    | ((with_reducible refine gate_dst (N := 9) rfl ?_); refine box_event ?hg (N := 9) ?hd (cs := #[.func (.func 138) #[] #[.pointer (some ⟨go, 0, none⟩)]]) (t := 129) ?hr ?_; (case hd => rfl); (case hg => rfl); (case hr => first | (go_simp; done) | (go_simp; rfl)); intro g9 h9 w9 hb9 hl9; have L9 := Aside0.mk (below_step L8.out hl9); have B69 := Aside0.mk (blk_below B68.out hl9); have B99 := Aside0.mk hb9; have x8 := (blk_cell (blk_below B88.out hl9) 0).trans rfl; clear hb9 hl9 h9))
  clear x8
  refine start_ (n := 4) (S := fun w' => w'.cell? ⟨g9, 0, none⟩ = some (.func (.func 138) #[] #[.pointer (some ⟨go, 0, none⟩)]) ∧ w'.cell? ⟨g6, 0, none⟩ = some (.slice At inner.length ct) ∧ w'.cell? ⟨g6, 1, none⟩ = some (.slice (some ⟨gR, 0, none⟩) outer.length outer.length)) (ds := [3]) #[false, false, false, false] (by kernel_rfl) rfl rfl (⟨(blk_cell B99.out 0).trans rfl, (blk_cell B69.out 0).trans rfl, (blk_cell B69.out 1).trans rfl⟩) (fun hHeld => ?_); refine with_tabW impl_tableaux.tab137_2 impl_tableaux.bits137_2 (fun HT_ HW_ => ?_)
  have LA := Aside0.mk (show Below w.heap.size w w9.drew from L9.out.drew)
  have BA6 := Aside0.mk (blk_drew B69.out)
  have BA9 := Aside0.mk (blk_drew B99.out)
  generalize w9.drew = wa at LA BA6 BA9 hHeld ⊢
  refine take_ (i := 0) (N := some 14) (v := ?_) (a' := ?_) #[true, false, false, false] rfl rfl (take_ofW HT_.out HW_.out (by kernel_rfl)) (fun _ _ _ h => h) (Or.inl ⟨by rfl, ?_⟩) hHeld ?_ ?_
  rotate_left
  · rintro w' ⟨s0, s1, s2⟩
    go_simp
    with_reducible rfl
  rotate_left
  · simp only [Act.put, List.setIfInBounds_toArray, List.set_cons_zero, List.set_cons_succ, i64_w, i32_w]
    rfl
  refine take_ (i := 1) (N := some 15) (v := ?_) (a' := ?_) #[true, true, false, false] rfl rfl (take_ofW HT_.out HW_.out (by kernel_rfl)) (fun _ _ _ h => h) (Or.inl ⟨by rfl, ?_⟩) hHeld ?_ ?_
  rotate_left
  · rintro w' ⟨s0, s1, s2⟩
    go_simp
    with_reducible rfl
  rotate_left
  · simp only [Act.put, List.setIfInBounds_toArray, List.set_cons_zero, List.set_cons_succ, i64_w, i32_w]
    rfl
  have HSTA := Aside0.mk (HST.out.below LA.out)
  refine one_ (i := 2) (N := some 16) #[true, true, true, false] rfl rfl (one_of HT_.out (by kernel_rfl)) (by decide) (fun K hK => ?_)
  refine goes_ Tryd.func159 (by kernel_rfl) rfl #[.agg #[.slice At inner.length ct, .slice (some ⟨gR, 0, none⟩) outer.length outer.length]] (by rfl) rfl rfl (by (try simp only [List.map_toArray, List.map_cons, List.map_nil]); rfl) ?_
  have hown := impl_Tableau_own.calls (rows.length + 1) At ct inner (some ⟨gR, 0, none⟩) outer.length rows inner rows wa (HAt.out _ (Kept.of_below LA.out _)) hct (HSTA.out.rowsAt.reads (by rw [HRL.out]; omega)) (by rw [HRL.out]; exact Nat.le_refl _) (impl_grow.own_eq inner rows hli (by rw [HRL.out]; exact hlo) (fun r hr => by have := HRS.out r hr; omega))
  rw [HRL.out] at hown
  refine hown.mono ?_
  rintro e wb ⟨v0, v1, rfl, hR0, hS1, hb⟩
  have HR0 := Aside0.mk hR0
  have HR1 := Aside0.mk (Kd.R_mono (Kd.S_R hS1) (fun _ _ => trivial))
  have HBB := Aside0.mk hb
  clear hR0 hS1 hb hown
  refine ⟨_, rfl, ?_⟩
  refine hK.out _ _ ⟨(blk_cell (blk_below BA9.out HBB.out) 0).trans rfl, (blk_cell (blk_below BA6.out HBB.out) 0).trans rfl, (blk_cell (blk_below BA6.out HBB.out) 1).trans rfl⟩ (fun hHeld => ?_)
  clear hK K
  refine norm_ (a' := ?_) ?_ ?_
  rotate_left
  · show Act.put _ (some 16) _ = _
    simp only [Act.put, List.setIfInBounds_toArray, List.set_cons_zero, List.set_cons_succ, i64_w, i32_w]
    rfl
  obtain ⟨v, hv, hS⟩ := HSTA.out.out
  have hcall := impl_tableaux_1.calls B wa.heap.size go O v v0 v1 ts ⟨inner, rows⟩ wb (blk_below hv HBB.out) (blk_lt hv) HSTA.out.hB HBB.out.size HSTA.out.goO (Kd.S_mono (Kd.S_below hS HBB.out) (fun k hk => ⟨hk, HSTA.out.lt k (.inr hk)⟩)) (by have := HTS.out; omega) HR0.out HR1.out
  have HCALL := Aside0.mk hcall
  have HGO := Aside0.mk (blk_lt hv)
  clear hv hS hcall
  have he := enters_ (P := Tryd.prog) (f := 138) Tryd.func138 (by kernel_rfl) rfl
  refine last_ (i := 3) (N := some 17) #[true, true, true, true] rfl rfl (one_of HT_.out (by kernel_rfl)) (by decide) (fun K hK => ?_)
  refine call_ 138 #[.agg #[v0, v1], .pointer (some ⟨go, 0, none⟩)] (by rfl) rfl ?_ ?_
  · go_simp
  refine HCALL.out.mono ?_
  rintro e w' ⟨rfl, v', hv', hS', hk', hb'⟩
  refine ⟨_, rfl, ?_⟩
  refine hK.out _ _ ?_
  clear hK K he
  refine done_ (done_of HT_.out (by kernel_rfl)) ?_
  go_wp2
  refine bodyPost_ret (results_none rfl _ _ _) rfl ?_
  have hB : B ≤ w.heap.size := by have h1 := HST.out.rowsAt.2.1; have h2 := HST.out.rowsAt.lt; omega
  have hkb : Kept w wb (impl_grow.Mg go T O) := (Kept.of_below LA.out _).below HBB.out
  have hstb := HSTA.out.below HBB.out
  refine ⟨rfl, T, fun k => ((O k ∨ wa.heap.size ≤ k) ∧ k ≠ go) ∧ k < w'.heap.size, ⟨hstb.rowsAt.kept hk' ?_, ⟨v', hv', Kd.S_mono (Kd.S_bound hS') (fun k hk => ⟨hk.1, hk.2.2.1⟩)⟩, ?_, HST.out.goT, fun h => h.1.2 rfl, HST.out.hB, ?_, ?_⟩, hkb.then_ hk' (fun k hk => .inl (.inr hk)), ?_, ((LA.out.mono hB).trans (HBB.out.mono (Nat.le_trans hB LA.out.size))).trans hb'⟩
  · rintro k hT (hO | rfl)
    · exact HST.out.dis k hT hO
    · exact HST.out.goT hT
  · rintro k hT ⟨⟨hO | hO, _⟩, _⟩
    · exact HST.out.dis k hT hO
    · have := HSTA.out.lt k (.inl hT); omega
  · rintro k (hT | hO)
    · exact Nat.lt_of_lt_of_le (hstb.lt k (.inl hT)) hk'.1
    · exact hO.2
  · intro u hu
    rw [hv'] at hu
    obtain rfl : v' = u := by simpa using hu
    exact impl_grow.S_some hS' (by simp)
  · rintro k (hT | hO | hg)
    · exact .inl (.inl hT)
    · rcases hO.1.1 with h | h
      · exact .inl (.inr (.inl h))
      · exact .inr (Nat.le_trans LA.out.size h)
    · exact .inl (.inr (.inr hg))
set_option maxHeartbeats 4000000 in
set_option maxRecDepth 100000 in
theorem impl_grow.cons_ok (B go gR : Nat) (outer inner : List Int) (Ao Ai At : Option Addr) (co ci ct : Nat) (hco : outer.length ≤ co) (hci : inner.length ≤ ci) (hct : inner.length ≤ ct)
    (hbo : ∀ x ∈ outer, 0 ≤ x ∧ x ≤ 9) (hbi : ∀ x ∈ inner, 0 ≤ x ∧ x ≤ 9) (hlo : outer.length ≤ 1000) (hli : inner.length ≤ 1000) (w0 : Int) (hw0 : 0 ≤ w0) (ws : List Int) (ih : impl_grow.Ok B go gR outer inner Ao Ai At co ci ct ws) : impl_grow.Ok B go gR outer inner Ao Ai At co ci ct (w0 :: ws) := by
  intro k rows ts T O w Aw cw hst hrl hrs hk0 hk1 hts hAo hAi hAt hAw hcw
  have hu38 := Tryd.underlying38
  have hu56 := Tryd.underlying56
  have HPUT := Aside0.mk (fun Aw' => impl_grow.put_calls B go gR outer inner Ao Ai At co ci ct hco hci hct hbo hbi hlo hli w0 ws k hk0 (by simp only [List.length_cons] at hk1; omega) cw Aw' (by simpa using hcw) ih)
  have HST := Aside0.mk hst
  have HAo := Aside0.mk hAo
  have HAi := Aside0.mk hAi
  have HAt := Aside0.mk hAt
  have HAw := Aside0.mk hAw
  have HRS := Aside0.mk hrs
  have HTS := Aside0.mk hts
  have HRL := Aside0.mk hrl
  have HBO := Aside0.mk (And.intro hbo hbi)
  clear hst hAo hAi hAt hAw hrs hts hrl hbo hbi ih
  simp only [List.length_cons] at hk1 hcw ⊢
  obtain ⟨adw, eaw, hxw⟩ := Kd.at_int (HAw.out w (Kept.refl _ _)) 0 (by omega) (by simp only [List.length_cons]; omega)
  cases eaw
  have HXW := Aside0.mk (show w.cell? adw = some (.int .i64 w0) from by simpa [Addr.add, rd] using hxw)
  clear hxw
  go_enter Tryd.func137, Tryd.ntmps137
  go_wp2_with (first
    | ((with_reducible refine gate_dst (N := 5) rfl ?_); refine box_event ?hg (N := 5) ?hd (cs := #[.slice Ao outer.length co, .slice Ai inner.length ci]) (t := 38) ?hr ?_; (case hd => rfl); (case hg => rfl); (case hr => first | (go_simp; done) | (go_simp; rfl)); intro g5 h5 w5 hb5 hl5; have L5 := Aside0.mk hl5; have B5 := Aside0.mk hb5; have G5 := Aside0.mk (Nat.le_of_eq h5.symm); clear hb5 hl5 h5)
    | ((with_reducible refine gate_dst (N := 6) rfl ?_); refine box_event ?hg (N := 6) ?hd (cs := #[.slice At inner.length ct, .slice (some ⟨gR, 0, none⟩) outer.length outer.length]) (t := 56) ?hr ?_; (case hd => rfl); (case hg => rfl); (case hr => first | (go_simp; done) | (go_simp; rfl)); intro g6 h6 w6 hb6 hl6; have B6 := Aside0.mk hb6; have L6 := Aside0.mk (below_step L5.out hl6); have G6 := Aside0.mk (show w.heap.size ≤ g6 by rw [h6]; exact L5.out.size); have P6 := Aside0.mk hl6; clear hb6 hl6 h6)
    | ((with_reducible refine gate_dst (N := 7) rfl ?_); refine box_event ?hg (N := 7) ?hd (cs := #[.int .i64 k]) (t := 3) ?hr ?_; (case hd => rfl); (case hg => rfl); (case hr => first | (go_simp; done) | (go_simp; rfl)); intro g7 h7 w7 hb7 hl7; have L7 := Aside0.mk (below_step L6.out hl7); have B67 := Aside0.mk (blk_below B6.out hl7); have G7 := Aside0.mk (show w.heap.size ≤ g7 by rw [h7]; exact L6.out.size); have P7 := Aside0.mk hl7; have B7 := Aside0.mk hb7; clear hb7 hl7 h7)
    | ((with_reducible refine gate_dst (N := 8) rfl ?_); refine box_event ?hg (N := 8) ?hd (cs := #[.slice (some adw) (ws.length + 1) cw]) (t := 22) ?hr ?_; (case hd => rfl); (case hg => rfl); (case hr => first | (go_simp; done) | (go_simp; rfl)); intro g8 h8 w8 hb8 hl8; have L8 := Aside0.mk (below_step L7.out hl8); have B68 := Aside0.mk (blk_below B67.out hl8); have B88 := Aside0.mk hb8; have G8 := Aside0.mk (show w.heap.size ≤ g8 by rw [h8]; exact L7.out.size); have P8 := Aside0.mk hl8; clear hb8 hl8 h8)
    | ((with_reducible refine gate_dst (N := 9) rfl ?_); refine box_event ?hg (N := 9) ?hd (cs := #[.func (.func 138) #[] #[.pointer (some ⟨go, 0, none⟩)]]) (t := 129) ?hr ?_; (case hd => rfl); (case hg => rfl); (case hr => first | (go_simp; done) | (go_simp; rfl)); intro g9 h9 w9 hb9 hl9; have L9 := Aside0.mk (below_step L8.out hl9); have B69 := Aside0.mk (blk_below B68.out hl9); have B99 := Aside0.mk hb9; have x8 := (blk_cell (blk_below B88.out hl9) 0).trans rfl; have G9 := Aside0.mk (show w.heap.size ≤ g9 by rw [h9]; exact L8.out.size); have P9 := Aside0.mk hl9; clear hb9 hl9 h9)
    | ((with_reducible refine gate_dst (N := 10) rfl ?_); refine box_event ?hg (N := 10) ?hd (cs := #[Value.nilFunc]) (t := 149) ?hr ?_; (case hd => rfl); (case hg => rfl); (case hr => first | (go_simp; done) | (go_simp; rfl)); intro g10 h10 w10 hb10 hl10; have LB := Aside0.mk hl10; have B1010 := Aside0.mk hb10; have G10 := Aside0.mk (show w.heap.size ≤ g10 by rw [h10]; exact L9.out.size); have N10 := Aside0.mk h10; have x10 := (blk_cell hb10 0).trans rfl; have f10 := blk_frozen hb10 0; clear x8 hb10 hl10 h10))
  try clear x10
  try clear f10
  have HLC := Aside0.mk (show Below w.heap.size w w10 from below_step L9.out LB.out)
  have HLD := Aside0.mk (show Below w.heap.size w (w10.setCell ⟨g10, 0, none⟩ (.func (.func 160) #[] #[.pointer (some ⟨g5, 0, none⟩), .pointer (some ⟨g6, 0, none⟩), .pointer (some ⟨g7, 0, none⟩), .pointer (some ⟨g8, 0, none⟩), .pointer (some ⟨g9, 0, none⟩), .pointer (some ⟨g10, 0, none⟩)])) from HLC.out.setCell G10.out _)
  have HP := Aside0.mk (one_setCell (u := (.func (.func 160) #[] #[.pointer (some ⟨g5, 0, none⟩), .pointer (some ⟨g6, 0, none⟩), .pointer (some ⟨g7, 0, none⟩), .pointer (some ⟨g8, 0, none⟩), .pointer (some ⟨g9, 0, none⟩), .pointer (some ⟨g10, 0, none⟩)])) B1010.out)
  have hlt : ∀ {g : Nat}, w.heap.size ≤ g → ¬ impl_grow.Mg go T O g := fun hg hm => by have := HST.out.mlt _ hm; omega
  have HBX := Aside0.mk (show impl_grow.Boxes (w10.setCell ⟨g10, 0, none⟩ (.func (.func 160) #[] #[.pointer (some ⟨g5, 0, none⟩), .pointer (some ⟨g6, 0, none⟩), .pointer (some ⟨g7, 0, none⟩), .pointer (some ⟨g8, 0, none⟩), .pointer (some ⟨g9, 0, none⟩), .pointer (some ⟨g10, 0, none⟩)])) (impl_grow.Mg go T O) go gR outer inner Ao Ai At co ci ct k (some adw) (ws.length + 1) cw g5 g6 g7 g8 g9 g10 from by
    have b5 := blk_below (blk_below (blk_below (blk_below B5.out P6.out) P7.out) P8.out) P9.out
    have b6 := blk_below (blk_below (blk_below B6.out P7.out) P8.out) P9.out
    have b7 := blk_below (blk_below B7.out P8.out) P9.out
    have b8 := blk_below B88.out P9.out
    have b9 := B99.out
    have ne : ∀ {g : Nat} {o : Obj}, w9.heap[g]? = some o → g ≠ g10 := fun h e => by have := blk_lt h; rw [e, N10.out] at this; omega
    exact ⟨blk_far (blk_below b5 LB.out) (ne b5) _, blk_far (blk_below b6 LB.out) (ne b6) _, blk_far (blk_below b7 LB.out) (ne b7) _, blk_far (blk_below b8 LB.out) (ne b8) _, blk_far (blk_below b9 LB.out) (ne b9) _, HP.out, hlt G5.out, hlt G6.out, hlt G7.out, hlt G8.out, hlt G9.out, hlt G10.out⟩)
  clear hlt
  have HST2 := Aside0.mk (HST.out.below HLD.out)
  have HXW2 := Aside0.mk ((HLD.out.cell (World.block_lt_of_cell? w _ HXW.out)).trans HXW.out)
  have HK2 := Aside0.mk (Kept.of_below HLD.out (impl_grow.Mg go T O))
  generalize w10.setCell ⟨g10, 0, none⟩ (.func (.func 160) #[] #[.pointer (some ⟨g5, 0, none⟩), .pointer (some ⟨g6, 0, none⟩), .pointer (some ⟨g7, 0, none⟩), .pointer (some ⟨g8, 0, none⟩), .pointer (some ⟨g9, 0, none⟩), .pointer (some ⟨g10, 0, none⟩)]) = w11 at HLD HBX HST2 HXW2 HK2 ⊢
  refine start_ (n := 5) (S := fun w' => w'.cell? ⟨g10, 0, none⟩ = some (.func (.func 160) #[] #[.pointer (some ⟨g5, 0, none⟩), .pointer (some ⟨g6, 0, none⟩), .pointer (some ⟨g7, 0, none⟩), .pointer (some ⟨g8, 0, none⟩), .pointer (some ⟨g9, 0, none⟩), .pointer (some ⟨g10, 0, none⟩)]) ∧ w'.cell? ⟨g8, 0, none⟩ = some (.slice (some adw) (ws.length + 1) cw) ∧ w'.cell? adw = some (.int .i64 w0)) (ds := [4]) #[false, false, false, false, false] (by kernel_rfl) rfl rfl (⟨(blk_cell HBX.out.hp 0).trans rfl, (blk_cell HBX.out.hw 0).trans rfl, HXW2.out⟩) (fun hHeld => ?_); refine with_tabW impl_tableaux.tab137_5 impl_tableaux.bits137_5 (fun HT_ HW_ => ?_)
  have HB12 := Aside0.mk (show Below w11.heap.size w11 w11.drew from (Below.refl _ _).drew)
  generalize w11.drew = w12 at HB12 hHeld ⊢
  have hz0 : (0 : Int) < ((ws.length + 1 : Nat) : Int) := by omega
  refine take_ (i := 0) (N := some 19) (v := ?_) (a' := ?_) #[true, false, false, false, false] rfl rfl (take_ofW HT_.out HW_.out (by kernel_rfl)) (fun _ _ _ h => h) (Or.inl ⟨by rfl, ?_⟩) hHeld ?_ ?_
  rotate_left
  · rintro w' ⟨s0, s1, s2⟩
    go_simp
    with_reducible rfl
  rotate_left
  · simp only [Act.put, List.setIfInBounds_toArray, List.set_cons_zero, List.set_cons_succ, i64_w, i32_w]
    rfl
  refine take_ (i := 1) (N := some 20) (v := ?_) (a' := ?_) #[true, true, false, false, false] rfl rfl (take_ofW HT_.out HW_.out (by kernel_rfl)) (fun _ _ _ h => h) (Or.inl ⟨by rfl, ?_⟩) hHeld ?_ ?_
  rotate_left
  · rintro w' ⟨s0, s1, s2⟩
    go_simp
    with_reducible rfl
  rotate_left
  · simp only [Act.put, List.setIfInBounds_toArray, List.set_cons_zero, List.set_cons_succ, i64_w, i32_w]
    rfl
  refine pure_ (i := 2) (N := some 21) (v := ?_) (a' := ?_) #[true, true, true, false, false] rfl rfl (any_of HT_.out (by kernel_rfl)) (fun _ _ _ h => h) (Or.inl ⟨by rfl, ?_⟩) ?_ ?_
  rotate_left
  · intro w'
    go_simp
    with_reducible rfl
  rotate_left
  · simp only [Act.put, List.setIfInBounds_toArray, List.set_cons_zero, List.set_cons_succ, i64_w, i32_w]
    rfl
  refine take_ (i := 3) (N := some 22) (v := ?_) (a' := ?_) #[true, true, true, true, false] rfl rfl (take_ofW HT_.out HW_.out (by kernel_rfl)) (fun _ _ _ h => h) (Or.inl ⟨by rfl, ?_⟩) hHeld ?_ ?_
  rotate_left
  · rintro w' ⟨s0, s1, s2⟩
    go_simp
    with_reducible rfl
  rotate_left
  · simp only [Act.put, List.setIfInBounds_toArray, List.set_cons_zero, List.set_cons_succ, i64_w, i32_w]
    rfl
  clear hz0
  have he := enters_ (P := Tryd.prog) (f := 160) Tryd.func160 (by kernel_rfl) rfl
  have ew : ((w0.toNat : Nat) : Int) = w0 := Int.toNat_of_nonneg hw0
  have HK3 := Aside0.mk (HK2.out.below HB12.out)
  have hcall := HPUT.out (some adw) g5 g6 g7 g8 g9 g10 w0.toNat 0 rows ts T O w12 (HST2.out.below HB12.out) HRL.out (Nat.zero_le _) (fun r hr => by have h := HRS.out r hr; simp only [impl_grow.total, List.map_cons, List.sum_cons] at h ⊢; omega) (by have h := HTS.out; simpa only [Gr.growL] using h)
    (HAo.out.to HK3.out (fun _ h => .inl h)) (HAi.out.to HK3.out (fun _ h => .inl h)) (HAt.out.to HK3.out (fun _ h => .inl h)) (HAw.out.to HK3.out (fun _ h => .inl h)) (HBX.out.to (Kept.of_below HB12.out _) (fun _ h => .inl h))
  rw [ew] at hcall
  have HCALL := Aside0.mk hcall
  clear hcall ew
  refine last_ (i := 4) (N := some 23) #[true, true, true, true, true] rfl rfl (one_of HT_.out (by kernel_rfl)) (by decide) (fun K hK => ?_)
  refine call_ 160 #[.int .i64 0, .int .i64 w0, .pointer (some ⟨g5, 0, none⟩), .pointer (some ⟨g6, 0, none⟩), .pointer (some ⟨g7, 0, none⟩), .pointer (some ⟨g8, 0, none⟩), .pointer (some ⟨g9, 0, none⟩), .pointer (some ⟨g10, 0, none⟩)] (by rfl) rfl ?_ ?_
  · go_simp
  refine HCALL.out.mono ?_
  rintro e w' ⟨rfl, hD⟩
  refine ⟨_, rfl, ?_⟩
  refine hK.out _ _ ?_
  clear hK K he
  refine done_ (done_of HT_.out (by kernel_rfl)) ?_
  go_wp2
  refine bodyPost_end (results_none rfl _ _ _) rfl ?_
  have hB : B ≤ w.heap.size := by have h1 := HST.out.rowsAt.2.1; have h2 := HST.out.rowsAt.lt; omega
  exact ⟨rfl, impl_grow.Done.from_ HK3.out (fun _ h => .inl h) ((HLD.out.mono hB).trans (HB12.out.mono (Nat.le_trans hB HLD.out.size))) (by simpa only [Gr.growL] using hD)⟩
theorem impl_grow.ok (B go gR : Nat) (outer inner : List Int) (Ao Ai At : Option Addr) (co ci ct : Nat) (hco : outer.length ≤ co) (hci : inner.length ≤ ci) (hct : inner.length ≤ ct)
    (hbo : ∀ x ∈ outer, 0 ≤ x ∧ x ≤ 9) (hbi : ∀ x ∈ inner, 0 ≤ x ∧ x ≤ 9) (hlo : outer.length ≤ 1000) (hli : inner.length ≤ 1000) : ∀ ws : List Int, (∀ x ∈ ws, 0 ≤ x) → impl_grow.Ok B go gR outer inner Ao Ai At co ci ct ws
  | [], _ => impl_grow.nil_ok B go gR outer inner Ao Ai At co ci ct hct hlo hli
  | w0 :: ws, h => impl_grow.cons_ok B go gR outer inner Ao Ai At co ci ct hco hci hct hbo hbi hlo hli w0 (h w0 (List.mem_cons_self)) ws (impl_grow.ok B go gR outer inner Ao Ai At co ci ct hco hci hct hbo hbi hlo hli ws (fun x hx => h x (List.mem_cons_of_mem _ hx)))
def impl_tableaux.T140_1 : Bool × List (List Nat × List Nat) := (true, [([], []), ([0], [0]), ([], []), ([2, 1], [2]), ([1, 3, 3], [1, 3]), ([4, 4, 0, 1, 2, 3, 4], [4])])
def impl_tableaux.B140_1 : List Nat := [0, 1, 0, 7, 15, 31]
theorem impl_tableaux.tab140_1 : rtab .any (opsOf Tryd.f140 1) = impl_tableaux.T140_1 := by kernel_rfl
theorem impl_tableaux.bits140_1 : waitsOk impl_tableaux.T140_1.2 impl_tableaux.B140_1 = true := by kernel_rfl
set_option maxHeartbeats 4000000 in
set_option maxRecDepth 100000 in
theorem impl_tableaux_2.calls (k : Nat) (A0 : Option Addr) (c0 : Nat) (l0 : List Int) (A1 : Option Addr) (c1 : Nat) (l1 : List (List Int)) (D0 : Option Addr) (d0 : Nat) (m0 : List Int) (D1 : Option Addr) (d1 : Nat) (m1 : List (List Int)) (ta tb : ByteArray) (r : Int) (w : World)
    (h0 : Kd.C (Kd.int .i64) w A0 l0.length l0) (hc0 : l0.length ≤ c0) (h1 : Kd.C (Kd.slice 3 (Kd.int .i64)) w A1 l1.length l1) (hc1 : l1.length ≤ c1)
    (g0 : Kd.C (Kd.int .i64) w D0 m0.length m0) (hd0 : m0.length ≤ d0) (g1 : Kd.C (Kd.slice 3 (Kd.int .i64)) w D1 m1.length m1) (hd1 : m1.length ≤ d1)
    (ha : impl_TableauText.f k l0 l1 = some ta) (hb : impl_TableauText.f k m0 m1 = some tb) (hr : strings_Compare.f ta tb = some r) :
    Calls Tryd.prog 140 #[.agg #[.slice A0 l0.length c0, .slice A1 l1.length c1], .agg #[.slice D0 m0.length d0, .slice D1 m1.length d1]] w fun e w' => e = .returned (.int .i64 r) ∧ Below w.heap.size w w' := by
  have hu56 := Tryd.underlying56
  have H0 := Aside0.mk h0
  have H1 := Aside0.mk h1
  have G0 := Aside0.mk g0
  have G1 := Aside0.mk g1
  have HC := Aside0.mk (And.intro hc0 (And.intro hc1 (And.intro hd0 hd1)))
  have HT := Aside0.mk (And.intro ha (And.intro hb hr))
  clear h0 h1 g0 g1 hc0 hc1 hd0 hd1 ha hb hr
  go_enter Tryd.func140, Tryd.ntmps140
  go_wp2_with (first
    | ((with_reducible refine gate_dst (N := 2) rfl ?_); refine box_event ?hg (N := 2) ?hd (cs := #[.slice A0 l0.length c0, .slice A1 l1.length c1]) (t := 56) ?hr ?_; (case hd => rfl); (case hg => rfl); (case hr => first | (go_simp; done) | (go_simp; rfl)); intro p2 h2 w2 hb2 hl2; have B2 := Aside0.mk hb2; have L2 := Aside0.mk hl2; clear hb2 hl2 h2)
    | ((with_reducible refine gate_dst (N := 3) rfl ?_); refine box_event ?hg (N := 3) ?hd (cs := #[.slice D0 m0.length d0, .slice D1 m1.length d1]) (t := 56) ?hr ?_; (case hd => rfl); (case hg => rfl); (case hr => first | (go_simp; done) | (go_simp; rfl)); intro p3 h3 w3 hb3 hl3; have B3 := Aside0.mk hb3; have B23 := Aside0.mk (blk_below B2.out hl3); have L3 := Aside0.mk (below_step L2.out hl3); clear hb3 hl3 h3))
  refine start_ (n := 6) (S := fun w' => w'.cell? ⟨p2, 0, none⟩ = some (.slice A0 l0.length c0) ∧ w'.cell? ⟨p2, 1, none⟩ = some (.slice A1 l1.length c1) ∧ w'.cell? ⟨p3, 0, none⟩ = some (.slice D0 m0.length d0) ∧ w'.cell? ⟨p3, 1, none⟩ = some (.slice D1 m1.length d1)) (ds := []) #[false, false, false, false, false, false] (by kernel_rfl) rfl rfl (⟨(blk_cell B23.out 0).trans rfl, (blk_cell B23.out 1).trans rfl, (blk_cell B3.out 0).trans rfl, (blk_cell B3.out 1).trans rfl⟩) (fun hHeld => ?_); refine with_tabW impl_tableaux.tab140_1 impl_tableaux.bits140_1 (fun HT_ HW_ => ?_)
  have LA := Aside0.mk (show Below w.heap.size w w3.drew from L3.out.drew)
  have BA2 := Aside0.mk (blk_drew B23.out)
  have BA3 := Aside0.mk (blk_drew B3.out)
  generalize w3.drew = wa at LA BA2 BA3 hHeld ⊢
  refine take_ (i := 0) (N := some 5) (v := ?_) (a' := ?_) #[true, false, false, false, false, false] rfl rfl (take_ofW HT_.out HW_.out (by kernel_rfl)) (fun _ _ _ h => h) (Or.inl ⟨by rfl, ?_⟩) hHeld ?_ ?_
  rotate_left
  · rintro w' ⟨s0, s1, s2, s3⟩
    go_simp
    with_reducible rfl
  rotate_left
  · simp only [Act.put, List.setIfInBounds_toArray, List.set_cons_zero, List.set_cons_succ, i64_w, i32_w]
    rfl
  refine take_ (i := 2) (N := some 7) (v := ?_) (a' := ?_) #[true, false, true, false, false, false] rfl rfl (take_ofW HT_.out HW_.out (by kernel_rfl)) (fun _ _ _ h => h) (Or.inl ⟨by rfl, ?_⟩) hHeld ?_ ?_
  rotate_left
  · rintro w' ⟨s0, s1, s2, s3⟩
    go_simp
    with_reducible rfl
  rotate_left
  · simp only [Act.put, List.setIfInBounds_toArray, List.set_cons_zero, List.set_cons_succ, i64_w, i32_w]
    rfl
  refine one_ (i := 1) (N := some 6) #[true, true, true, false, false, false] rfl rfl (one_of HT_.out (by kernel_rfl)) (by decide) (fun K hK => ?_)
  refine goes_ Tryd.func55 (by kernel_rfl) rfl #[.agg #[.slice A0 l0.length c0, .slice A1 l1.length c1]] (by rfl) rfl rfl (by (try simp only [List.map_toArray, List.map_cons, List.map_nil]); rfl) ?_
  refine (impl_TableauText.calls k A0 c0 l0 A1 c1 l1 ta wa (Kd.C_below H0.out LA.out) HC.out.1 (Kd.C_below H1.out LA.out) HC.out.2.1 HT.out.1).mono ?_
  rintro e wb ⟨rfl, hbb⟩
  have LB := Aside0.mk (below_step LA.out hbb)
  have BB2 := Aside0.mk (blk_below BA2.out hbb)
  have BB3 := Aside0.mk (blk_below BA3.out hbb)
  clear hbb
  refine ⟨_, rfl, ?_⟩
  refine hK.out _ _ ⟨(blk_cell BB2.out 0).trans rfl, (blk_cell BB2.out 1).trans rfl, (blk_cell BB3.out 0).trans rfl, (blk_cell BB3.out 1).trans rfl⟩ (fun hHeld => ?_)
  clear hK K
  refine norm_ (a' := ?_) ?_ ?_
  rotate_left
  · show Act.put _ (some 6) _ = _
    simp only [Act.put, List.setIfInBounds_toArray, List.set_cons_zero, List.set_cons_succ, i64_w, i32_w]
    rfl
  refine one_ (i := 3) (N := some 8) #[true, true, true, true, false, false] rfl rfl (one_of HT_.out (by kernel_rfl)) (by decide) (fun K hK => ?_)
  refine goes_ Tryd.func55 (by kernel_rfl) rfl #[.agg #[.slice D0 m0.length d0, .slice D1 m1.length d1]] (by rfl) rfl rfl (by (try simp only [List.map_toArray, List.map_cons, List.map_nil]); rfl) ?_
  refine (impl_TableauText.calls k D0 d0 m0 D1 d1 m1 tb wb (Kd.C_below G0.out LB.out) HC.out.2.2.1 (Kd.C_below G1.out LB.out) HC.out.2.2.2 HT.out.2.1).mono ?_
  rintro e wc ⟨rfl, hbc⟩
  have LC := Aside0.mk (below_step LB.out hbc)
  have BC2 := Aside0.mk (blk_below BB2.out hbc)
  have BC3 := Aside0.mk (blk_below BB3.out hbc)
  clear hbc
  refine ⟨_, rfl, ?_⟩
  refine hK.out _ _ ⟨(blk_cell BC2.out 0).trans rfl, (blk_cell BC2.out 1).trans rfl, (blk_cell BC3.out 0).trans rfl, (blk_cell BC3.out 1).trans rfl⟩ (fun hHeld => ?_)
  clear hK K
  refine norm_ (a' := ?_) ?_ ?_
  rotate_left
  · show Act.put _ (some 8) _ = _
    simp only [Act.put, List.setIfInBounds_toArray, List.set_cons_zero, List.set_cons_succ, i64_w, i32_w]
    rfl
  have hH0 := hHeld
  refine one_ (i := 4) (N := some 9) #[true, true, true, true, true, false] rfl rfl (one_of HT_.out (by kernel_rfl)) (by decide) (fun K hK => ?_)
  refine goes_ Tryd.func141 (by kernel_rfl) rfl #[.string ta, .string tb] (by rfl) rfl rfl (by (try simp only [List.map_toArray, List.map_cons, List.map_nil]); rfl) ?_
  refine (strings_Compare.calls ta tb r wc HT.out.2.2).mono ?_
  rintro e wd ⟨rfl, ⟨nd, rfl⟩⟩
  refine ⟨_, rfl, ?_⟩
  refine hK.out _ _ hH0 (fun hHeld => ?_)
  clear hK K
  refine norm_ (a' := ?_) ?_ ?_
  rotate_left
  · show Act.put _ (some 9) _ = _
    simp only [Act.put, List.setIfInBounds_toArray, List.set_cons_zero, List.set_cons_succ, i64_w, i32_w]
    rfl
  refine pure_ (i := 5) (N := some 4) (v := ?_) (a' := ?_) #[true, true, true, true, true, true] rfl rfl (any_of HT_.out (by kernel_rfl)) (fun _ _ _ h => h) (Or.inl ⟨by rfl, ?_⟩) ?_ ?_
  rotate_left
  · intro w'
    go_simp
    with_reducible rfl
  rotate_left
  · simp only [Act.put, List.setIfInBounds_toArray, List.set_cons_zero, List.set_cons_succ, i64_w, i32_w]
    rfl
  refine done_ (done_of HT_.out (by kernel_rfl)) ?_
  go_wp2
  go_ret
  exact ⟨rfl, pw_below_drewN LC.out _⟩
theorem strings_Compare.cb_refl : ∀ a : List UInt8, Go.Lib.compareBytes a a = 0
  | [] => rfl
  | x :: a => by simp [Go.Lib.compareBytes, cb_refl a]
theorem strings_Compare.cb_swap : ∀ a b : List UInt8, Go.Lib.compareBytes a b = - Go.Lib.compareBytes b a
  | [], [] => rfl
  | [], _ :: _ => rfl
  | _ :: _, [] => rfl
  | x :: a, y :: b => by
    simp only [Go.Lib.compareBytes, UInt8.lt_iff_toNat_lt]
    have h := cb_swap a b
    split <;> split <;> first | omega | exact h | rfl
theorem strings_Compare.cb_eq : ∀ a b : List UInt8, Go.Lib.compareBytes a b = 0 → a = b
  | [], [], _ => rfl
  | [], _ :: _, h => by simp [Go.Lib.compareBytes] at h
  | _ :: _, [], h => by simp [Go.Lib.compareBytes] at h
  | x :: a, y :: b, h => by
    simp only [Go.Lib.compareBytes, UInt8.lt_iff_toNat_lt] at h
    split at h
    · omega
    · split at h
      · omega
      · have e : x = y := UInt8.toNat_inj.1 (by omega)
        rw [e, cb_eq a b h]
theorem strings_Compare.cb_trans : ∀ a b c : List UInt8, Go.Lib.compareBytes a b ≤ 0 → Go.Lib.compareBytes b c ≤ 0 → Go.Lib.compareBytes a c ≤ 0
  | [], _, [], _, _ => by simp [Go.Lib.compareBytes]
  | [], _, _ :: _, _, _ => by simp [Go.Lib.compareBytes]
  | _ :: _, [], _, h, _ => by simp [Go.Lib.compareBytes] at h
  | _ :: _, _ :: _, [], _, h => by simp [Go.Lib.compareBytes] at h
  | x :: a, y :: b, z :: c, h1, h2 => by
    have ih := cb_trans a b c
    simp only [Go.Lib.compareBytes, UInt8.lt_iff_toNat_lt] at h1 h2 ⊢
    split at h1 <;> split at h2 <;> (try split at h1) <;> (try split at h2) <;> (try omega) <;> split <;> (try omega) <;> (try (rw [if_neg (by omega)]; exact ih h1 h2))
theorem impl_tableaux_2.grown {w w' : World} (hb : Below w.heap.size w w') (hd : w.drawn ≤ w'.drawn) : ∃ q os, w' = Go.Sort.grow (w.drewN q) os := by
  refine ⟨w'.drawn - w.drawn, w'.heap.extract w.heap.size w'.heap.size, ?_⟩
  have hh : w'.heap = w.heap ++ w'.heap.extract w.heap.size w'.heap.size := by
    apply Array.ext_getElem?
    intro i
    rw [Array.getElem?_append]
    split
    · rename_i h; exact hb.block i h
    · rename_i h
      by_cases h2 : i < w'.heap.size
      · rw [Array.getElem?_extract]
        have e : w.heap.size + (i - w.heap.size) = i := by omega
        rw [if_pos (by omega), e]
      · rw [Array.getElem?_eq_none (by omega), Array.getElem?_eq_none (by simp; omega)]
  obtain ⟨h1, h2, h3, h4, h5⟩ := hb
  cases w; cases w'
  simp only [Go.Sort.grow, World.drewN] at *
  simp only [World.mk.injEq]
  exact ⟨hh, h2, by omega, h1, h3⟩
open Go.Sort in
theorem impl_tableaux_2.heap_other {α : Type} [Inhabited α] (enc : α → List Value) (k : Nat) (w : World) (blk off m : Nat) (dk : Array α) (os : Array Obj) (j : Nat) (hj : j < w.heap.size) (hne : j ≠ blk) : (sortWorldK enc k w blk off m dk os).heap[j]? = w.heap[j]? := by
  show ((w.heap.modify blk _) ++ os)[j]? = _
  rw [Array.getElem?_append, if_pos (by rw [Array.size_modify]; exact hj), Array.getElem?_modify, if_neg (Ne.symm hne)]
structure impl_tableaux_2.El (w : World) (g k B : Nat) (P : Nat → Prop) (f : Nat → Nat) where
  cs : List Value
  x : S56
  ix : Nat
  t : ByteArray
  hM : k56.M w B (fun k => (P k ∧ k ≠ g) ∧ f k = ix) x cs
  ht : impl_TableauText.f k x.f0 x.f1 = some t
theorem impl_tableaux_2.El.hK {w : World} {g k B : Nat} {P : Nat → Prop} {f : Nat → Nat} (a : impl_tableaux_2.El w g k B P f) (W : World) (hW : ∀ j, j < w.heap.size → j ≠ g → W.heap[j]? = w.heap[j]?) : k56.K W a.x a.cs :=
  k56.K_of_M (Kd.M_step a.hM (fun j hj hlt => hW j hlt hj.1.2))
theorem impl_tableaux_2.El.hl {w : World} {g k B : Nat} {P : Nat → Prop} {f : Nat → Nat} (a : impl_tableaux_2.El w g k B P f) : a.cs.length = 2 := k56.K_len (a.hK w (fun _ _ _ => rfl))
theorem impl_tableaux_2.El.h1 {w : World} {g k B : Nat} {P : Nat → Prop} {f : Nat → Nat} (a : impl_tableaux_2.El w g k B P f) : ∀ v ∈ a.cs, v.oneCell' = true := k56.K_one (a.hK w (fun _ _ _ => rfl))
def impl_tableaux_2.cf {w : World} {g k B : Nat} {P : Nat → Prop} {f : Nat → Nat} (a b : impl_tableaux_2.El w g k B P f) : Int := Go.Lib.compareBytes a.t.data.toList b.t.data.toList
open Go.Sort in
theorem impl_tableaux_2.lays (w : World) (g k B n : Nat) (P : Nat → Prop) (f : Nat → Nat) [Inhabited (impl_tableaux_2.El w g k B P f)] : CmpLays Tryd.prog 140 #[] (impl_tableaux_2.El.cs (w := w) (g := g) (k := k) (B := B) (P := P) (f := f)) 2 impl_tableaux_2.cf g 0 n w := by
  intro m os dk _ a b
  obtain ⟨A0, c0, A1, c1, ea, h1, h2, h3, h4⟩ := k56_open (a.hK _ (fun j hj hne => impl_tableaux_2.heap_other (impl_tableaux_2.El.cs (w := w) (g := g) (k := k) (B := B) (P := P) (f := f)) 2 w g 0 m dk os j hj hne))
  obtain ⟨D0, d0, D1, d1, eb, g1, g2, g3, g4⟩ := k56_open (b.hK _ (fun j hj hne => impl_tableaux_2.heap_other (impl_tableaux_2.El.cs (w := w) (g := g) (k := k) (B := B) (P := P) (f := f)) 2 w g 0 m dk os j hj hne))
  rw [ea, eb]
  have h := impl_tableaux_2.calls k A0 c0 a.x.f0 A1 c1 a.x.f1 D0 d0 b.x.f0 D1 d1 b.x.f1 a.t b.t (impl_tableaux_2.cf a b) _ h2 h1 h4 h3 g2 g1 g4 g3 a.ht b.ht rfl
  refine (Go.DrawnMono.calls_drawn h).mono ?_
  rintro e w' ⟨⟨rfl, hb⟩, hd⟩
  exact ⟨rfl, impl_tableaux_2.grown hb (hd ⟨_, rfl⟩)⟩
theorem impl_tableaux_2.els {w : World} {g k B cap : Nat} {P : Nat → Prop} {f : Nat → Nat} {ts : List S56} {inner : List Value}
    (hr : Reps ((Kd.tag f k56).M w B (fun k => P k ∧ some k ≠ (Value.slice (some ⟨g, 0, none⟩) ts.length cap).ownBlock)) 2 ts.zipIdx inner) (ht : ∀ x ∈ ts, ∃ t, impl_TableauText.f k x.f0 x.f1 = some t) :
    ∃ d : Array (impl_tableaux_2.El w g k B P f), d.size = ts.length ∧ ∀ (j : Nat) (h : j < d.size) (h2 : j < ts.length), d[j].x = ts[j] ∧ d[j].ix = j ∧ d[j].cs = (inner.drop (j * 2)).take 2 := by
  have key : ∀ j : Fin ts.length, ∃ e : impl_tableaux_2.El w g k B P f, e.x = ts[j] ∧ e.ix = j.1 ∧ e.cs = (inner.drop (j.1 * 2)).take 2 := by
    intro j
    obtain ⟨t, hj⟩ := ht ts[j] (List.getElem_mem j.2)
    have hm := hr.2 j.1 (ts[j], j.1) (Kd.zip_at (List.getElem?_eq_getElem j.2))
    exact ⟨⟨(inner.drop (j.1 * 2)).take 2, ts[j], j.1, t, k56.M_mono (fun q hq => ⟨⟨hq.1.1, fun e => hq.1.2 (by rw [e]; rfl)⟩, hq.2⟩) hm, hj⟩, rfl, rfl, rfl⟩
  refine ⟨Array.ofFn fun j : Fin ts.length => Classical.choose (key j), by simp, fun j h h2 => ?_⟩
  rw [Array.getElem_ofFn]
  exact Classical.choose_spec (key ⟨j, h2⟩)
theorem impl_tableaux_2.flat {w : World} {g k B : Nat} {P : Nat → Prop} {f : Nat → Nat} [Inhabited (impl_tableaux_2.El w g k B P f)] {ts : List S56} {inner : List Value} {d : Array (impl_tableaux_2.El w g k B P f)} (hs : d.size = ts.length) (hl : inner.length = ts.length * 2)
    (hd : ∀ (j : Nat) (h : j < d.size), d[j].cs = (inner.drop (j * 2)).take 2) : Go.Sort.flatK impl_tableaux_2.El.cs 2 d = inner.toArray := by
  refine Go.Sort.ext_get! (by simp [hs, hl]) fun t ht => ?_
  have ht' : t < d.size * 2 := by simpa using ht
  have hj : t / 2 < d.size := by omega
  rw [Go.Sort.get_flatK _ _ _ t ht', getElem!_pos d (t / 2) hj, hd _ hj]
  have hti : t < inner.length := by omega
  have e : t / 2 * 2 + t % 2 = t := by omega
  rw [getElem!_pos inner.toArray t (by simpa using hti), getElem!_pos ((inner.drop (t / 2 * 2)).take 2) (t % 2) (by rw [List.length_take, List.length_drop]; omega)]
  simp [List.getElem_take, List.getElem_drop, e]
open Go.Sort in
theorem impl_tableaux_2.swo {w : World} {g k B : Nat} {P : Nat → Prop} {f : Nat → Nat} : SWO (ltOf (impl_tableaux_2.cf (w := w) (g := g) (k := k) (B := B) (P := P) (f := f))) where
  irrefl := fun x => by simp [ltOf, impl_tableaux_2.cf, strings_Compare.cb_refl]
  trans := fun x y z h1 h2 => by
    replace h1 : Go.Lib.compareBytes x.t.data.toList y.t.data.toList < 0 := of_decide_eq_true h1
    replace h2 : Go.Lib.compareBytes y.t.data.toList z.t.data.toList < 0 := of_decide_eq_true h2
    refine decide_eq_true (p := Go.Lib.compareBytes x.t.data.toList z.t.data.toList < 0) ?_
    have h3 := strings_Compare.cb_trans _ _ _ (Int.le_of_lt h1) (Int.le_of_lt h2)
    rcases Int.lt_or_eq_of_le h3 with h | h
    · exact h
    · have e := strings_Compare.cb_eq _ _ h
      have h4 := strings_Compare.cb_swap x.t.data.toList y.t.data.toList
      rw [e] at h1 h4
      omega
  ntrans := fun x y z h1 h2 => by
    replace h1 : ¬ Go.Lib.compareBytes x.t.data.toList y.t.data.toList < 0 := of_decide_eq_false h1
    replace h2 : ¬ Go.Lib.compareBytes y.t.data.toList z.t.data.toList < 0 := of_decide_eq_false h2
    refine decide_eq_false (p := Go.Lib.compareBytes x.t.data.toList z.t.data.toList < 0) ?_
    have a := strings_Compare.cb_swap x.t.data.toList y.t.data.toList
    have b := strings_Compare.cb_swap y.t.data.toList z.t.data.toList
    have c := strings_Compare.cb_swap x.t.data.toList z.t.data.toList
    have h3 := strings_Compare.cb_trans z.t.data.toList y.t.data.toList x.t.data.toList (by omega) (by omega)
    omega
theorem impl_tableaux_2.holds {w : World} {g k B : Nat} {P : Nat → Prop} {f : Nat → Nat} [Inhabited (impl_tableaux_2.El w g k B P f)] {inner : List Value} {cur : Array Value} {t : TypeId} {d : Array (impl_tableaux_2.El w g k B P f)} (hf : Go.Sort.flatK impl_tableaux_2.El.cs 2 d = inner.toArray) (hl : inner.length = d.size * 2)
    (hh : w.heap[g]? = some (.cells cur t (0, 0))) (ht : cur.toList.take (d.size * 2) = inner) : Go.Sort.HoldsK impl_tableaux_2.El.cs 2 w g 0 d := by
  intro j hj
  rw [hf] at hj ⊢
  have hj' : j < inner.length := by simpa using hj
  rw [Nat.zero_add]
  refine ⟨?_, blk_frozen hh j⟩
  rw [blk_cell hh j, getElem!_pos inner.toArray j (by simpa using hj)]
  have h1 : inner[j]? = cur.toList[j]? := by rw [← ht, List.getElem?_take, if_pos (by omega)]
  rw [← Array.getElem?_toList, ← h1]
  simp [hj']
end Go.Proofs.YtppkfgcnmaifmaaDoor.Hb
namespace Go.Proofs.YtppkfgcnmaifmaaDoor.Hb
open Go.RowKit Go.Proofs.YtppkfgcnmaifmaaDoorW.PrintWords Go.Proofs.YtppkfgcnmaifmaaDoorW.PrintLast Go.Proofs.YtppkfgcnmaifmaaDoorW.PrintMore
attribute [local go_sem] max2_int min2_int max_two min_two max_three min_three max_four min_four   -- for this text's walks alone
set_option linter.unusedVariables false
set_option linter.unusedSimpArgs false
open Go.Sort in
theorem impl_tableaux_2.sort_S (w : World) (g cap B k : Nat) (O : Nat → Prop) (ts : List S56) (hS : Kd.S k56 56 w B O (.slice (some ⟨g, 0, none⟩) ts.length cap) ts) (h0 : ∃ t, impl_TableauText.f k [] [] = some t) (hlen : ts.length < 4611686018427387904) (ht : ∀ x ∈ ts, ∃ t, impl_TableauText.f k x.f0 x.f1 = some t) :
    Calls Tryd.prog 139 #[.slice (some ⟨g, 0, none⟩) ts.length cap, .func (.func 140) #[] #[]] w fun e w' => e = .returned (.tuple #[]) ∧
      ∃ ts' : List S56, ts'.Perm ts ∧ (ts'.Pairwise fun a b => ∀ ta tb, impl_TableauText.f k a.f0 a.f1 = some ta → impl_TableauText.f k b.f0 b.f1 = some tb → Go.Lib.compareBytes ta.data.toList tb.data.toList ≤ 0) ∧
        Kd.S k56 56 w' B O (.slice (some ⟨g, 0, none⟩) ts.length cap) ts' ∧ Kept w w' (fun j => j = g) ∧ Below B w w' := by
  obtain ⟨f, hO, inner, hown, hr⟩ := hS
  rw [List.length_zipIdx] at hown
  obtain ⟨d, hds, hd⟩ := impl_tableaux_2.els hr ht
  obtain ⟨t0, ht0⟩ := h0
  haveI : Inhabited (impl_tableaux_2.El w g k B O f) := ⟨⟨[.slice none 0 0, .slice none 0 0], ⟨[], []⟩, 0, t0, k56_mkM _ _ _ ⟨[], []⟩ (Kd.R_nil _ _ _ _ _) (Kd.R_nil _ _ _ _ _), ht0⟩⟩
  have hl : inner.length = ts.length * 2 := hown.1
  rcases hown.2 with ⟨e, _⟩ | ⟨g', cap', cur, e, hBg, hh, hnc, hcm, hcs, htk⟩
  · cases e
  obtain ⟨rfl, rfl⟩ : g' = g ∧ cap' = cap := by injection e with e1 e2 e3; injection e1 with e1; injection e1 with e1; exact ⟨e1.symm, e3.symm⟩
  have hflat := impl_tableaux_2.flat (inner := inner) hds hl (fun j h => (hd j h (by omega)).2.2)
  have h := Go.Proofs.AnyQ.slices_SortFunc (P := Tryd.prog) Go.Proofs.Tryd.sortTab 2 Tryd.isAgg56 Tryd.sizeOf56 (impl_tableaux_2.El.cs (w := w) (g := g') (k := k) (B := B) (P := O) (f := f)) impl_tableaux_2.El.hl impl_tableaux_2.El.h1 impl_tableaux_2.cf impl_tableaux_2.swo 140 #[] g' 0 cap' d w (enters_ Tryd.func140 (by kernel_rfl) rfl) (impl_tableaux_2.lays w g' k B d.size O f) (impl_tableaux_2.holds hflat (by rw [hl, hds]) hh (by rw [hds]; exact htk)) (blk_lt hh) (by omega)
  rw [hds] at h
  refine (show Calls Tryd.prog 139 _ _ _ from h).mono ?_
  rintro e w' ⟨rfl, d', n, os, hperm, hsort, rfl⟩
  have hsz : d'.size = ts.length := hperm.1.trans hds
  have hpl : d'.toList.Perm d.toList := by
    have h1 := hperm.2.2
    rwa [show d'.extract 0 ts.length = d' from by rw [← hsz]; exact Array.extract_size, show d.extract 0 ts.length = d from by rw [← hds]; exact Array.extract_size] at h1
  have hdx : d.toList.map impl_tableaux_2.El.x = ts := by
    apply List.ext_getElem (by simp [hds])
    intro j h1 h2
    simp only [List.getElem_map, Array.getElem_toList]
    exact (hd j (by simpa using h1) h2).1
  have hdi : d.toList.map impl_tableaux_2.El.ix = List.range ts.length := by
    apply List.ext_getElem (by simp [hds])
    intro j h1 h2
    simp only [List.getElem_map, Array.getElem_toList, List.getElem_range]
    exact (hd j (by simpa using h1) (by simpa using h2)).2.1
  have hsize : w.heap.size ≤ (sortWorldK impl_tableaux_2.El.cs 2 w g' 0 n d' os).heap.size := by
    show _ ≤ ((w.heap.modify g' _) ++ os).size
    rw [Array.size_append, Array.size_modify]
    omega
  refine ⟨rfl, d'.toList.map impl_tableaux_2.El.x, ?_, ?_, ?_, ?_, ?_⟩
  · rw [← hdx]; exact hpl.map _
  · rw [List.pairwise_map, List.pairwise_iff_getElem]
    intro i j hi hj hij ta tb h1 h2
    have hj' : j < d'.size := by simpa using hj
    have hi' : i < d'.size := by simpa using hi
    have hs := hsort i j (Nat.zero_le _) hij (by omega)
    rw [getElem!_pos d' i hi', getElem!_pos d' j hj'] at hs
    have hs' : ¬ Go.Lib.compareBytes d'[j].t.data.toList d'[i].t.data.toList < 0 := of_decide_eq_false hs
    simp only [Array.getElem_toList] at h1 h2
    obtain rfl : d'[i].t = ta := Option.some.inj (d'[i].ht.symm.trans h1)
    obtain rfl : d'[j].t = tb := Option.some.inj (d'[j].ht.symm.trans h2)
    have := strings_Compare.cb_swap d'[i].t.data.toList d'[j].t.data.toList
    omega
  · have hix : (d'.toList.map impl_tableaux_2.El.ix).Nodup := ((hpl.map impl_tableaux_2.El.ix).trans (by rw [hdi])).nodup_iff.2 List.nodup_range
    have hdl : d'.toList.length = ts.length := by rw [← hsz]; rfl
    have hcl : ∀ j (h : j < d'.size), d'[j].cs.length = 2 := fun j h => d'[j].hl
    have hfl : (Go.Sort.flatK impl_tableaux_2.El.cs 2 d').toList.length = ts.length * 2 := by simp [hsz]
    have hseg : ∀ j (h : j < d'.size), (((Go.Sort.flatK impl_tableaux_2.El.cs 2 d').toList.drop (j * 2)).take 2) = d'[j].cs := by
      intro j h
      apply List.ext_getElem
      · rw [List.length_take, List.length_drop, hfl, hcl j h]; omega
      · intro i h1 h2
        have hi : i < 2 := by rw [hcl j h] at h2; exact h2
        have hlt : j * 2 + i < d'.size * 2 := by omega
        rw [List.getElem_take, List.getElem_drop, Array.getElem_toList]
        have := Go.Sort.get_flatK impl_tableaux_2.El.cs 2 d' (j * 2 + i) hlt
        rw [getElem!_pos _ _ (by simpa using hlt)] at this
        rw [this, show (j * 2 + i) / 2 = j from by omega, show (j * 2 + i) % 2 = i from by omega, getElem!_pos d' j h, getElem!_pos d'[j].cs i h2]
    refine ⟨fun q => (d'.toList.map impl_tableaux_2.El.ix).idxOf (f q), hO, (Go.Sort.flatK impl_tableaux_2.El.cs 2 d').toList, ?_, ?_⟩
    · rw [List.length_zipIdx, List.length_map, hdl]
      refine ⟨hfl, .inr ⟨g', cap', putCells id 0 (Go.Sort.flatK impl_tableaux_2.El.cs 2 d') cur, rfl, hBg, ?_, hnc, hcm, ?_, ?_⟩⟩
      · show ((w.heap.modify g' _) ++ os)[g']? = _
        rw [Array.getElem?_append, if_pos (by rw [Array.size_modify]; exact blk_lt hh), Array.getElem?_modify, if_pos rfl, hh]
        rfl
      · have h1 : cur.size = cap' * 2 := hcs
        show (putCells id 0 (Go.Sort.flatK impl_tableaux_2.El.cs 2 d') cur).size = cap' * 2
        simp [putCells, h1]
      · have h1 : cur.size = cap' * 2 := hcs
        show List.take (ts.length * 2) (putCells id 0 (Go.Sort.flatK impl_tableaux_2.El.cs 2 d') cur).toList = _
        apply List.ext_getElem
        · rw [hfl, List.length_take]; simp [putCells, h1]; omega
        · intro i h2 h3
          have hi : i < ts.length * 2 := by rw [hfl] at h3; exact h3
          rw [List.getElem_take, Array.getElem_toList, Array.getElem_toList]
          simp only [putCells, Array.getElem_mapIdx]
          rw [if_pos (by simp [hsz]; omega)]
          simp only [Nat.sub_zero, id]
          rw [getElem!_pos _ _ (by simp [hsz]; omega)]
    · refine ⟨by rw [hfl, List.length_zipIdx, List.length_map, hdl]; rfl, fun j p hj => ?_⟩
      obtain ⟨hj1, hj2⟩ := List.getElem?_eq_some_iff.1 hj
      rw [List.length_zipIdx, List.length_map, hdl] at hj1
      have hjd : j < d'.size := by omega
      rw [List.getElem_zipIdx, List.getElem_map, Array.getElem_toList] at hj2
      subst hj2
      rw [show (Kd.tag (fun q => (d'.toList.map impl_tableaux_2.El.ix).idxOf (f q)) k56).sz = 2 from rfl, hseg j hjd]
      have hidx : (d'.toList.map impl_tableaux_2.El.ix).idxOf d'[j].ix = 0 + j := by
        have h1 : j < (d'.toList.map impl_tableaux_2.El.ix).length := by rw [List.length_map, hdl]; exact hj1
        have h2 := hix.idxOf_getElem j h1
        rw [List.getElem_map, Array.getElem_toList] at h2
        omega
      exact k56.M_mono (fun q hq => ⟨⟨hq.1.1, fun e => hq.1.2 (Option.some.inj e)⟩, by show List.idxOf (f q) _ = 0 + j; rw [hq.2]; exact hidx⟩) (Kd.M_step d'[j].hM (fun q hq hlt => impl_tableaux_2.heap_other _ 2 w g' 0 n d' os q hlt hq.1.2))
  · exact ⟨hsize, fun i hi hn => impl_tableaux_2.heap_other _ 2 w g' 0 n d' os i hi hn⟩
  · exact ⟨rfl, rfl, rfl, hsize, fun j hj => impl_tableaux_2.heap_other _ 2 w g' 0 n d' os j (by have := blk_lt hh; omega) (by omega)⟩
def impl_tableaux.T99_2 : Bool × List (List Nat × List Nat) := (true, [([], []), ([0], [0]), ([], []), ([2, 1], [2]), ([1, 3], [1, 3])])
def impl_tableaux.B99_2 : List Nat := [0, 1, 0, 7, 15]
theorem impl_tableaux.tab99_2 : rtab .any (opsOf Tryd.f99 2) = impl_tableaux.T99_2 := by kernel_rfl
theorem impl_tableaux.bits99_2 : waitsOk impl_tableaux.T99_2.2 impl_tableaux.B99_2 = true := by kernel_rfl
def impl_tableaux.T99_4 : Bool × List (List Nat × List Nat) := (true, [([], []), ([0], [0]), ([1], [1]), ([], []), ([3], [3]), ([4], [4]), ([5, 5], [5]), ([2, 6], [2, 6]), ([], []), ([8, 7, 2, 0, 1, 2, 3, 4, 5, 6, 7, 8], [7, 8])])
def impl_tableaux.B99_4 : List Nat := [0, 1, 3, 0, 8, 24, 56, 127, 0, 511]
theorem impl_tableaux.tab99_4 : rtab .any (opsOf Tryd.f99 4) = impl_tableaux.T99_4 := by kernel_rfl
theorem impl_tableaux.bits99_4 : waitsOk impl_tableaux.T99_4.2 impl_tableaux.B99_4 = true := by kernel_rfl
theorem impl_tableaux.rowsAt_new {w : World} {B g n : Nat} {T : Nat → Prop} (hT : T g) (hB : B ≤ g) (hh : w.heap[g]? = some (.cells (madeCells #[.slice none 0 0] n) 22 (0, 0))) : impl_grow.RowsAt w B g T (List.replicate n []) := by
  have hm : madeCells #[Value.slice none 0 0] n = (List.replicate n (Value.slice none 0 0)).toArray := by
    apply Array.ext'
    apply List.ext_getElem
    · simp [madeCells]
    · intro i h1 h2
      simp [madeCells, Nat.mod_one]
  refine ⟨hT, hB, List.replicate n (.slice none 0 0), by simp, by rw [hh, hm], fun i v xs hv hx => ?_, fun i j v u _ hv _ k hk => ?_⟩
  · rw [List.getElem?_replicate] at hv hx
    split at hv
    · rename_i hi
      rw [if_pos hi] at hx
      obtain rfl := Option.some.inj hv
      obtain rfl := Option.some.inj hx
      exact ⟨⟨rfl, .inl ⟨rfl, rfl⟩⟩, fun k hk => by simp [Value.ownBlock] at hk⟩
    · cases hv
  · rw [List.getElem?_replicate] at hv
    split at hv
    · obtain rfl := Option.some.inj hv
      simp [Value.ownBlock] at hk
    · cases hv
set_option maxHeartbeats 4000000 in
set_option maxRecDepth 100000 in
theorem impl_tableaux.none_calls (k : Nat) (A0 : Option Addr) (c0 : Nat) (outer : List Int) (A1 : Option Addr) (c1 : Nat) (inner : List Int) (A2 : Option Addr) (c2 : Nat) (ws : List Int) (s c : Int) (w : World)
    (hO : Kd.C (Kd.int .i64) w A0 outer.length outer) (hc0 : outer.length ≤ c0) (hI : Kd.C (Kd.int .i64) w A1 inner.length inner) (hc1 : inner.length ≤ c1) (hW : Kd.C (Kd.int .i64) w A2 ws.length ws) (hc2 : ws.length ≤ c2)
    (hs : impl_sum.f k ws = some s) (hcc : impl_CellCount.f k outer inner = some c) (hne : s ≠ c) :
    Calls Tryd.prog 99 #[.agg #[.slice A0 outer.length c0, .slice A1 inner.length c1], .slice A2 ws.length c2] w fun e w' => ∃ v0_ : Value, e = .returned v0_ ∧ Kd.S k56 56 w' w.heap.size (fun _ => True) v0_ [] ∧ Below w.heap.size w w' := by
  have ct1 : (s == c) = false := beq_false_of_ne hne
  have ct2 : (s != c) = true := by simp [bne, ct1]
  clear hne
  have hu38 := Tryd.underlying38
  have hu56 := Tryd.underlying56
  have HO := Aside0.mk hO
  have HI := Aside0.mk hI
  have HW := Aside0.mk hW
  have HC := Aside0.mk (And.intro hc0 (And.intro hc1 hc2))
  have HS := Aside0.mk (And.intro hs hcc)
  clear hO hI hW hc0 hc1 hc2 hs hcc
  go_enter Tryd.func99, Tryd.ntmps99
  go_wp2_with (first
    | ((with_reducible refine gate_dst (N := 2) rfl ?_); refine box_event ?hg (N := 2) ?hd (cs := #[.slice A0 outer.length c0, .slice A1 inner.length c1]) (t := 38) ?hr ?_; (case hd => rfl); (case hg => rfl); (case hr => first | (go_simp; done) | (go_simp; rfl)); intro g2 h2 w2 hb2 hl2; have B2 := Aside0.mk hb2; have L2 := Aside0.mk hl2; have G2 := Aside0.mk (Nat.le_of_eq h2.symm); clear hb2 hl2 h2)
    | ((with_reducible refine gate_dst (N := 7) rfl ?_); refine Kd.S_lit k56 (w0 := w) w.heap.size 56 ?hg (N := 7) ?hd (xs := ([] : List S56)) (inner := []) (ok := fun k => w2.heap.size ≤ k) (okp := fun k => w2.heap.size ≤ k) ?hr ?hp (fun _ hk => hk) (Nat.le_refl _) L2.out L2.out.size (by simp) ?_; (case hd => rfl); (case hg => rfl); (case hr => first | (go_simp; done) | (go_simp; rfl)); (case hp => exact (Reps.none _ _)); intro v7 w7 ho7 hb7 hg_ hnew_; obtain ⟨A7, n7, c7, hv7⟩ : ∃ A n c, v7 = .slice A n c := (by obtain ⟨A, c, h⟩ := Kd.S_slice ho7; exact ⟨A, _, c, h⟩); subst hv7; have S7 := Aside0.mk (Kd.S_mono (ok' := fun k => w2.heap.size ≤ k ∧ k < w7.heap.size) (Kd.S_bound ho7) (fun k hk => ⟨hk.1, hk.2.2.1⟩)); have L7 := Aside0.mk hb7; have B27 := Aside0.mk (blk_grown B2.out hg_ (by simp)); have Z7 := Aside0.mk hg_.size; clear ho7 hb7 hg_ hnew_)
    | ((with_reducible refine gate_dst (N := 5) rfl ?_); refine box_event ?hg (N := 5) ?hd (cs := #[.slice none 0 0]) (t := 70) ?hr ?_; (case hd => rfl); (case hg => rfl); (case hr => first | (go_simp; done) | (go_simp; rfl)); intro g5 h5 w5 hb5 hl5; have B5 := Aside0.mk hb5; have L5 := Aside0.mk (below_step L7.out hl5); have P5 := Aside0.mk hl5; have G5 := Aside0.mk h5; have x5 := (blk_cell hb5 0).trans rfl; have f5 := blk_frozen hb5 0; clear hb5 hl5 h5))
  clear x5 f5
  have HG5 := Aside0.mk (show w.heap.size ≤ g5 by rw [G5.out]; exact L7.out.size)
  have HB5 := Aside0.mk (one_setCell (u := .slice A7 n7 c7) B5.out)
  have HB2 := Aside0.mk (blk_far (blk_below B27.out P5.out) (p := ⟨g5, 0, none⟩) (fun e => by have h1 := blk_lt B27.out; have h2 := G5.out; simp only at e; omega) (.slice A7 n7 c7))
  have HS5 := Aside0.mk (Kd.S_far (p := ⟨g5, 0, none⟩) (Kd.S_below S7.out P5.out) (fun k hk e => by have h1 := hk.2; have h2 := G5.out; simp only at e; omega) (.slice A7 n7 c7))
  have LS := Aside0.mk (show Below w.heap.size w (w5.setCell ⟨g5, 0, none⟩ (.slice A7 n7 c7)) from L5.out.setCell HG5.out _)
  refine start_ (n := 5) (S := fun w' => w'.cell? ⟨g2, 0, none⟩ = some (.slice A0 outer.length c0) ∧ w'.cell? ⟨g2, 1, none⟩ = some (.slice A1 inner.length c1)) (ds := []) #[false, false, false, false, false] (by kernel_rfl) rfl rfl (⟨(blk_cell HB2.out 0).trans rfl, (blk_cell HB2.out 1).trans rfl⟩) (fun hHeld => ?_); refine with_tabW impl_tableaux.tab99_2 impl_tableaux.bits99_2 (fun HT_ HW_ => ?_)
  have LA := Aside0.mk (show Below w.heap.size w (w5.setCell ⟨g5, 0, none⟩ (.slice A7 n7 c7)).drew from LS.out.drew)
  have BA2 := Aside0.mk (blk_drew HB2.out)
  have BA5 := Aside0.mk (blk_drew HB5.out)
  have SA := Aside0.mk (Kd.S_below HS5.out (below_drew (Below.refl _ _)))
  have ZA := Aside0.mk (show w7.heap.size ≤ g5 ∧ g5 < (w5.setCell ⟨g5, 0, none⟩ (.slice A7 n7 c7)).drew.heap.size from ⟨Nat.le_of_eq G5.out.symm, blk_lt HB5.out⟩)
  generalize (w5.setCell ⟨g5, 0, none⟩ (.slice A7 n7 c7)).drew = wa at LA BA2 BA5 SA ZA hHeld ⊢
  clear HB5 HB2 HS5 LS
  refine pure_ (i := 0) (N := some 8) (v := ?_) (a' := ?_) #[true, false, false, false, false] rfl rfl (any_of HT_.out (by kernel_rfl)) (fun _ _ _ h => h) (Or.inl ⟨by rfl, ?_⟩) ?_ ?_
  rotate_left
  · intro w'
    go_simp
    with_reducible rfl
  rotate_left
  · simp only [Act.put, List.setIfInBounds_toArray, List.set_cons_zero, List.set_cons_succ, i64_w, i32_w]
    rfl
  refine take_ (i := 2) (N := some 10) (v := ?_) (a' := ?_) #[true, false, true, false, false] rfl rfl (take_ofW HT_.out HW_.out (by kernel_rfl)) (fun _ _ _ h => h) (Or.inl ⟨by rfl, ?_⟩) hHeld ?_ ?_
  rotate_left
  · rintro w' ⟨s0, s1⟩
    go_simp
    with_reducible rfl
  rotate_left
  · simp only [Act.put, List.setIfInBounds_toArray, List.set_cons_zero, List.set_cons_succ, i64_w, i32_w]
    rfl
  refine one_ (i := 1) (N := some 9) #[true, true, true, false, false] rfl rfl (one_of HT_.out (by kernel_rfl)) (by decide) (fun K hK => ?_)
  refine goes_ Tryd.func32 (by kernel_rfl) rfl #[.slice A2 ws.length c2] (by rfl) rfl rfl (by (try simp only [List.map_toArray, List.map_cons, List.map_nil]); rfl) ?_
  refine (impl_sum.calls k A2 c2 ws s wa (Kd.C_below HW.out LA.out) HC.out.2.2 HS.out.1).mono ?_
  rintro e wd ⟨rfl, ⟨nd, rfl⟩⟩
  refine ⟨_, rfl, ?_⟩
  have DD := Aside0.mk (show Below wa.heap.size wa (wa.drewN nd) from pw_below_drewN (Below.refl _ _) _)
  refine hK.out _ _ ⟨(blk_cell (blk_drewN BA2.out _) 0).trans rfl, (blk_cell (blk_drewN BA2.out _) 1).trans rfl⟩ (fun hHeld => ?_)
  clear hK K
  refine norm_ (a' := ?_) ?_ ?_
  rotate_left
  · show Act.put _ (some 9) _ = _
    simp only [Act.put, List.setIfInBounds_toArray, List.set_cons_zero, List.set_cons_succ, i64_w, i32_w]
    rfl
  refine one_ (i := 3) (N := some 11) #[true, true, true, true, false] rfl rfl (one_of HT_.out (by kernel_rfl)) (by decide) (fun K hK => ?_)
  refine goes_ Tryd.func101 (by kernel_rfl) rfl #[.agg #[.slice A0 outer.length c0, .slice A1 inner.length c1]] (by rfl) rfl rfl (by (try simp only [List.map_toArray, List.map_cons, List.map_nil]); rfl) ?_
  refine (impl_CellCount.calls k A0 c0 outer A1 c1 inner c _ (Kd.C_below HO.out (below_step LA.out DD.out)) HC.out.1 (Kd.C_below HI.out (below_step LA.out DD.out)) HC.out.2.1 HS.out.2).mono ?_
  rintro e wb ⟨rfl, hbc⟩
  have hwb := below_step DD.out hbc
  have LB := Aside0.mk (below_step LA.out hwb)
  have BB2 := Aside0.mk (blk_below BA2.out hwb)
  have BB5 := Aside0.mk (blk_below BA5.out hwb)
  have SB := Aside0.mk (Kd.S_below SA.out hwb)
  have ZB := Aside0.mk (show w7.heap.size ≤ g5 ∧ wa.heap.size ≤ wb.heap.size ∧ g5 < wa.heap.size from ⟨ZA.out.1, hwb.size, ZA.out.2⟩)
  clear hwb hbc LA BA2 BA5 SA ZA DD
  refine ⟨_, rfl, ?_⟩
  refine hK.out _ _ ⟨(blk_cell BB2.out 0).trans rfl, (blk_cell BB2.out 1).trans rfl⟩ (fun hHeld => ?_)
  clear hK K
  refine norm_ (a' := ?_) ?_ ?_
  rotate_left
  · show Act.put _ (some 11) _ = _
    simp only [Act.put, List.setIfInBounds_toArray, List.set_cons_zero, List.set_cons_succ, i64_w, i32_w]
    rfl
  refine pure_ (i := 4) (N := some 12) (v := ?_) (a' := ?_) #[true, true, true, true, true] rfl rfl (any_of HT_.out (by kernel_rfl)) (fun _ _ _ h => h) (Or.inl ⟨by rfl, ?_⟩) ?_ ?_
  rotate_left
  · intro w'
    go_simp
    with_reducible rfl
  rotate_left
  · simp only [Act.put, List.setIfInBounds_toArray, List.set_cons_zero, List.set_cons_succ, i64_w, i32_w]
    rfl
  refine done_ (done_of HT_.out (by kernel_rfl)) ?_
  have hx := (blk_cell BB5.out 0).trans rfl
  go_wp2
  go_ret
  exact ⟨_, rfl, Kd.S_mono SB.out (fun _ _ => trivial), LB.out⟩
theorem impl_tableaux.S_at {α : Type} {d : Kd α} {e base : Nat} {w : World} {ok : Nat → Prop} {v : Value} {xs : List α} (h : Kd.S d e w base ok v xs) (hn : v.ownBlock ≠ none) : ∃ g c, v = .slice (some ⟨g, 0, none⟩) xs.length c ∧ ok g := by
  obtain ⟨f, hO, inner, hown, hr⟩ := h
  rw [List.length_zipIdx] at hown
  rcases hown.2 with ⟨e, _⟩ | ⟨g', cap', cur, e, _⟩
  · rw [e] at hn
    simp [Value.ownBlock] at hn
  · subst e
    exact ⟨g', cap', rfl, hO g' rfl⟩
set_option maxHeartbeats 8000000 in
set_option maxRecDepth 100000 in
theorem impl_tableaux.some_calls (k : Nat) (A0 : Option Addr) (c0 : Nat) (outer : List Int) (A1 : Option Addr) (c1 : Nat) (inner : List Int) (A2 : Option Addr) (c2 : Nat) (ws : List Int) (s c : Int) (w : World)
    (hO : Kd.C (Kd.int .i64) w A0 outer.length outer) (hc0 : outer.length ≤ c0) (hI : Kd.C (Kd.int .i64) w A1 inner.length inner) (hc1 : inner.length ≤ c1) (hW : Kd.C (Kd.int .i64) w A2 ws.length ws) (hc2 : ws.length ≤ c2)
    (hs : impl_sum.f k ws = some s) (hcc : impl_CellCount.f k outer inner = some c) (heq : s = c)
    (hbo : ∀ x ∈ outer, 0 ≤ x ∧ x ≤ 9) (hbi : ∀ x ∈ inner, 0 ≤ x ∧ x ≤ 9) (hlo : outer.length ≤ 1000) (hli : inner.length ≤ 1000) (hws : ∀ x ∈ ws, 0 ≤ x) (hwl : ws.length ≤ 900) (hwt : impl_grow.total ws ≤ 1000)
    (hgl : (Gr.growL outer inner ws (List.replicate outer.length []) 1).length < 2000000000) (ht0 : ∃ t, impl_TableauText.f k [] [] = some t) (ht : ∀ r ∈ Gr.growL outer inner ws (List.replicate outer.length []) 1, ∃ t, impl_TableauText.f k inner r = some t) :
    Calls Tryd.prog 99 #[.agg #[.slice A0 outer.length c0, .slice A1 inner.length c1], .slice A2 ws.length c2] w fun e w' => ∃ v0_ : Value, e = .returned v0_ ∧
      (∃ ts' : List S56, ts'.Perm ((Gr.growL outer inner ws (List.replicate outer.length []) 1).map fun r => ⟨inner, r⟩) ∧ (ts'.Pairwise fun a b => ∀ ta tb, impl_TableauText.f k a.f0 a.f1 = some ta → impl_TableauText.f k b.f0 b.f1 = some tb → Go.Lib.compareBytes ta.data.toList tb.data.toList ≤ 0) ∧
        Kd.S k56 56 w' w.heap.size (fun _ => True) v0_ ts') ∧ Below w.heap.size w w' := by
  have ct1 : (s == c) = true := by simp [heq]
  have ct2 : (s != c) = false := by simp [bne, ct1]
  have HL := Aside0.mk (And.intro hlo (And.intro hli (And.intro hwl hwt)))
  have HBW := Aside0.mk (And.intro hbo (And.intro hbi hws))
  have HGL := Aside0.mk hgl
  have HT := Aside0.mk (And.intro ht0 ht)
  have HCL : Aside0 (slices_Clone_int_int.f inner = some inner) := ⟨by unfold slices_Clone_int_int.f; rw [if_pos (by omega)]⟩
  clear heq hlo hli hwl hwt hbo hbi hws hgl ht0 ht
  have hu38 := Tryd.underlying38
  have hu56 := Tryd.underlying56
  have HO := Aside0.mk hO
  have HI := Aside0.mk hI
  have HW := Aside0.mk hW
  have HC := Aside0.mk (And.intro hc0 (And.intro hc1 hc2))
  have HS := Aside0.mk (And.intro hs hcc)
  clear hO hI hW hc0 hc1 hc2 hs hcc
  go_enter Tryd.func99, Tryd.ntmps99
  go_wp2_with (first
    | ((with_reducible refine gate_dst (N := 2) rfl ?_); refine box_event ?hg (N := 2) ?hd (cs := #[.slice A0 outer.length c0, .slice A1 inner.length c1]) (t := 38) ?hr ?_; (case hd => rfl); (case hg => rfl); (case hr => first | (go_simp; done) | (go_simp; rfl)); intro g2 h2 w2 hb2 hl2; have B2 := Aside0.mk hb2; have L2 := Aside0.mk hl2; have G2 := Aside0.mk (Nat.le_of_eq h2.symm); have Z2 := Aside0.mk hl2.size; clear hb2 hl2 h2)
    | ((with_reducible refine gate_dst (N := 7) rfl ?_); refine Kd.S_lit k56 (w0 := w) w.heap.size 56 ?hg (N := 7) ?hd (xs := ([] : List S56)) (inner := []) (ok := fun k => w2.heap.size ≤ k) (okp := fun k => w2.heap.size ≤ k) ?hr ?hp (fun _ hk => hk) (Nat.le_refl _) L2.out L2.out.size (by simp) ?_; (case hd => rfl); (case hg => rfl); (case hr => first | (go_simp; done) | (go_simp; rfl)); (case hp => exact (Reps.none _ _)); intro v7 w7 ho7 hb7 hg_ hnew_; obtain ⟨A7, n7, c7, hv7⟩ : ∃ A n c, v7 = .slice A n c := (by obtain ⟨A, c, h⟩ := Kd.S_slice ho7; exact ⟨A, _, c, h⟩); subst hv7; have S7 := Aside0.mk (Kd.S_mono (ok' := fun k => w2.heap.size ≤ k ∧ k < w7.heap.size) (Kd.S_bound ho7) (fun k hk => ⟨hk.1, hk.2.2.1⟩)); have L7 := Aside0.mk hb7; have B27 := Aside0.mk (blk_grown B2.out hg_ (by simp)); have Z7 := Aside0.mk hg_.size; have VN := Aside0.mk (show (Value.slice A7 n7 c7).ownBlock ≠ none by obtain ⟨b, hb, _⟩ := hnew_; rw [hb]; simp); clear ho7 hb7 hg_ hnew_)
    | ((with_reducible refine gate_dst (N := 5) rfl ?_); refine box_event ?hg (N := 5) ?hd (cs := #[.slice none 0 0]) (t := 70) ?hr ?_; (case hd => rfl); (case hg => rfl); (case hr => first | (go_simp; done) | (go_simp; rfl)); intro g5 h5 w5 hb5 hl5; have B5 := Aside0.mk hb5; have L5 := Aside0.mk (below_step L7.out hl5); have P5 := Aside0.mk hl5; have G5 := Aside0.mk h5; have x5 := (blk_cell hb5 0).trans rfl; have f5 := blk_frozen hb5 0; clear hb5 hl5 h5))
  clear x5 f5
  have HG5 := Aside0.mk (show w.heap.size ≤ g5 by rw [G5.out]; exact L7.out.size)
  have HB5 := Aside0.mk (one_setCell (u := .slice A7 n7 c7) B5.out)
  have HB2 := Aside0.mk (blk_far (blk_below B27.out P5.out) (p := ⟨g5, 0, none⟩) (fun e => by have h1 := blk_lt B27.out; have h2 := G5.out; simp only at e; omega) (.slice A7 n7 c7))
  have HS5 := Aside0.mk (Kd.S_far (p := ⟨g5, 0, none⟩) (Kd.S_below S7.out P5.out) (fun k hk e => by have h1 := hk.2; have h2 := G5.out; simp only at e; omega) (.slice A7 n7 c7))
  have LS := Aside0.mk (show Below w.heap.size w (w5.setCell ⟨g5, 0, none⟩ (.slice A7 n7 c7)) from L5.out.setCell HG5.out _)
  refine start_ (n := 5) (S := fun w' => w'.cell? ⟨g2, 0, none⟩ = some (.slice A0 outer.length c0) ∧ w'.cell? ⟨g2, 1, none⟩ = some (.slice A1 inner.length c1)) (ds := []) #[false, false, false, false, false] (by kernel_rfl) rfl rfl (⟨(blk_cell HB2.out 0).trans rfl, (blk_cell HB2.out 1).trans rfl⟩) (fun hHeld => ?_); refine with_tabW impl_tableaux.tab99_2 impl_tableaux.bits99_2 (fun HT_ HW_ => ?_)
  have LA := Aside0.mk (show Below w.heap.size w (w5.setCell ⟨g5, 0, none⟩ (.slice A7 n7 c7)).drew from LS.out.drew)
  have BA2 := Aside0.mk (blk_drew HB2.out)
  have BA5 := Aside0.mk (blk_drew HB5.out)
  have SA := Aside0.mk (Kd.S_below HS5.out (below_drew (Below.refl _ _)))
  have ZA := Aside0.mk (show w7.heap.size ≤ g5 ∧ g5 < (w5.setCell ⟨g5, 0, none⟩ (.slice A7 n7 c7)).drew.heap.size from ⟨Nat.le_of_eq G5.out.symm, blk_lt HB5.out⟩)
  generalize (w5.setCell ⟨g5, 0, none⟩ (.slice A7 n7 c7)).drew = wa at LA BA2 BA5 SA ZA hHeld ⊢
  clear HB5 HB2 HS5 LS
  refine pure_ (i := 0) (N := some 8) (v := ?_) (a' := ?_) #[true, false, false, false, false] rfl rfl (any_of HT_.out (by kernel_rfl)) (fun _ _ _ h => h) (Or.inl ⟨by rfl, ?_⟩) ?_ ?_
  rotate_left
  · intro w'
    go_simp
    with_reducible rfl
  rotate_left
  · simp only [Act.put, List.setIfInBounds_toArray, List.set_cons_zero, List.set_cons_succ, i64_w, i32_w]
    rfl
  refine take_ (i := 2) (N := some 10) (v := ?_) (a' := ?_) #[true, false, true, false, false] rfl rfl (take_ofW HT_.out HW_.out (by kernel_rfl)) (fun _ _ _ h => h) (Or.inl ⟨by rfl, ?_⟩) hHeld ?_ ?_
  rotate_left
  · rintro w' ⟨s0, s1⟩
    go_simp
    with_reducible rfl
  rotate_left
  · simp only [Act.put, List.setIfInBounds_toArray, List.set_cons_zero, List.set_cons_succ, i64_w, i32_w]
    rfl
  refine one_ (i := 1) (N := some 9) #[true, true, true, false, false] rfl rfl (one_of HT_.out (by kernel_rfl)) (by decide) (fun K hK => ?_)
  refine goes_ Tryd.func32 (by kernel_rfl) rfl #[.slice A2 ws.length c2] (by rfl) rfl rfl (by (try simp only [List.map_toArray, List.map_cons, List.map_nil]); rfl) ?_
  refine (impl_sum.calls k A2 c2 ws s wa (Kd.C_below HW.out LA.out) HC.out.2.2 HS.out.1).mono ?_
  rintro e wd ⟨rfl, ⟨nd, rfl⟩⟩
  refine ⟨_, rfl, ?_⟩
  have DD := Aside0.mk (show Below wa.heap.size wa (wa.drewN nd) from pw_below_drewN (Below.refl _ _) _)
  refine hK.out _ _ ⟨(blk_cell (blk_drewN BA2.out _) 0).trans rfl, (blk_cell (blk_drewN BA2.out _) 1).trans rfl⟩ (fun hHeld => ?_)
  clear hK K
  refine norm_ (a' := ?_) ?_ ?_
  rotate_left
  · show Act.put _ (some 9) _ = _
    simp only [Act.put, List.setIfInBounds_toArray, List.set_cons_zero, List.set_cons_succ, i64_w, i32_w]
    rfl
  refine one_ (i := 3) (N := some 11) #[true, true, true, true, false] rfl rfl (one_of HT_.out (by kernel_rfl)) (by decide) (fun K hK => ?_)
  refine goes_ Tryd.func101 (by kernel_rfl) rfl #[.agg #[.slice A0 outer.length c0, .slice A1 inner.length c1]] (by rfl) rfl rfl (by (try simp only [List.map_toArray, List.map_cons, List.map_nil]); rfl) ?_
  refine (impl_CellCount.calls k A0 c0 outer A1 c1 inner c _ (Kd.C_below HO.out (below_step LA.out DD.out)) HC.out.1 (Kd.C_below HI.out (below_step LA.out DD.out)) HC.out.2.1 HS.out.2).mono ?_
  rintro e wb ⟨rfl, hbc⟩
  have hwb := below_step DD.out hbc
  have LB := Aside0.mk (below_step LA.out hwb)
  have BB2 := Aside0.mk (blk_below BA2.out hwb)
  have BB5 := Aside0.mk (blk_below BA5.out hwb)
  have SB := Aside0.mk (Kd.S_below SA.out hwb)
  have ZB := Aside0.mk (show w7.heap.size ≤ g5 ∧ wa.heap.size ≤ wb.heap.size ∧ g5 < wa.heap.size from ⟨ZA.out.1, hwb.size, ZA.out.2⟩)
  clear hwb hbc LA BA2 BA5 SA ZA DD
  refine ⟨_, rfl, ?_⟩
  refine hK.out _ _ ⟨(blk_cell BB2.out 0).trans rfl, (blk_cell BB2.out 1).trans rfl⟩ (fun hHeld => ?_)
  clear hK K
  refine norm_ (a' := ?_) ?_ ?_
  rotate_left
  · show Act.put _ (some 11) _ = _
    simp only [Act.put, List.setIfInBounds_toArray, List.set_cons_zero, List.set_cons_succ, i64_w, i32_w]
    rfl
  refine pure_ (i := 4) (N := some 12) (v := ?_) (a' := ?_) #[true, true, true, true, true] rfl rfl (any_of HT_.out (by kernel_rfl)) (fun _ _ _ h => h) (Or.inl ⟨by rfl, ?_⟩) ?_ ?_
  rotate_left
  · intro w'
    go_simp
    with_reducible rfl
  rotate_left
  · simp only [Act.put, List.setIfInBounds_toArray, List.set_cons_zero, List.set_cons_succ, i64_w, i32_w]
    rfl
  refine done_ (done_of HT_.out (by kernel_rfl)) ?_
  go_wp2
  have LC0 := Aside0.mk (show Below w.heap.size w wb.drew from LB.out.drew)
  refine start_ (n := 10) (S := fun w' => w'.cell? ⟨g2, 0, none⟩ = some (.slice A0 outer.length c0) ∧ w'.cell? ⟨g2, 1, none⟩ = some (.slice A1 inner.length c1)) (ds := []) #[false, false, false, false, false, false, false, false, false, false] (by kernel_rfl) rfl rfl (⟨(blk_cell BB2.out 0).trans rfl, (blk_cell BB2.out 1).trans rfl⟩) (fun hHeld => ?_); refine with_tabW impl_tableaux.tab99_4 impl_tableaux.bits99_4 (fun HT_ HW_ => ?_)
  have LC := Aside0.mk (show Below w.heap.size w wb.drew from LB.out.drew)
  have BC2 := Aside0.mk (blk_drew BB2.out)
  have BC5 := Aside0.mk (blk_drew BB5.out)
  have SC := Aside0.mk (Kd.S_below SB.out (below_drew (Below.refl _ _)))
  have ZC := Aside0.mk (show w7.heap.size ≤ g5 ∧ g5 < wb.drew.heap.size from ⟨ZB.out.1, blk_lt BB5.out⟩)
  generalize wb.drew = wc at LC BC2 BC5 SC ZC hHeld ⊢
  clear LC0 BB2 BB5 SB ZB LB
  refine pure_ (i := 0) (N := some 14) (v := ?_) (a' := ?_) #[true, false, false, false, false, false, false, false, false, false] rfl rfl (any_of HT_.out (by kernel_rfl)) (fun _ _ _ h => h) (Or.inl ⟨by rfl, ?_⟩) ?_ ?_
  rotate_left
  · intro w'
    go_simp
    with_reducible rfl
  rotate_left
  · simp only [Act.put, List.setIfInBounds_toArray, List.set_cons_zero, List.set_cons_succ, i64_w, i32_w]
    rfl
  refine take_ (i := 1) (N := some 15) (v := ?_) (a' := ?_) #[true, true, false, false, false, false, false, false, false, false] rfl rfl (take_ofW HT_.out HW_.out (by kernel_rfl)) (fun _ _ _ h => h) (Or.inl ⟨by rfl, ?_⟩) hHeld ?_ ?_
  rotate_left
  · rintro w' ⟨s0, s1⟩
    go_simp
    with_reducible rfl
  rotate_left
  · simp only [Act.put, List.setIfInBounds_toArray, List.set_cons_zero, List.set_cons_succ, i64_w, i32_w]
    rfl
  refine pure_ (i := 3) (N := some 17) (v := ?_) (a' := ?_) #[true, true, false, true, false, false, false, false, false, false] rfl rfl (any_of HT_.out (by kernel_rfl)) (fun _ _ _ h => h) (Or.inl ⟨by rfl, ?_⟩) ?_ ?_
  rotate_left
  · intro w'
    go_simp
    with_reducible rfl
  rotate_left
  · simp only [Act.put, List.setIfInBounds_toArray, List.set_cons_zero, List.set_cons_succ, i64_w, i32_w]
    rfl
  refine take_ (i := 4) (N := some 18) (v := ?_) (a' := ?_) #[true, true, false, true, true, false, false, false, false, false] rfl rfl (take_ofW HT_.out HW_.out (by kernel_rfl)) (fun _ _ _ h => h) (Or.inl ⟨by rfl, ?_⟩) hHeld ?_ ?_
  rotate_left
  · rintro w' ⟨s0, s1⟩
    go_simp
    with_reducible rfl
  rotate_left
  · simp only [Act.put, List.setIfInBounds_toArray, List.set_cons_zero, List.set_cons_succ, i64_w, i32_w]
    rfl
  refine pure_ (i := 5) (N := some 19) (v := ?_) (a' := ?_) #[true, true, false, true, true, true, false, false, false, false] rfl rfl (any_of HT_.out (by kernel_rfl)) (fun _ _ _ h => h) (Or.inl ⟨by rfl, ?_⟩) ?_ ?_
  rotate_left
  · intro w'
    go_simp
    with_reducible rfl
  rotate_left
  · simp only [Act.put, List.setIfInBounds_toArray, List.set_cons_zero, List.set_cons_succ, i64_w, i32_w]
    rfl
  refine join_ (σ := (Option Addr × Nat) × Nat × Nat) 1 #[true, true, true, true, true, true, true, true, true, false] (fun s => [(16, .slice s.1.1 inner.length s.1.2), (20, .slice (some ⟨s.2.1, 0, none⟩) outer.length outer.length), (6, .pointer (some ⟨s.2.2, 0, none⟩)), (21, .agg #[.slice s.1.1 inner.length s.1.2, .slice (some ⟨s.2.1, 0, none⟩) outer.length outer.length])]) (fun s w' => Kd.R (Kd.int .i64) 3 w' w.heap.size (fun k => k ≠ s.2.1 ∧ k ≠ s.2.2 ∧ wc.heap.size ≤ k) (.slice s.1.1 inner.length s.1.2) inner ∧ w'.heap[s.2.1]? = some (.cells (madeCells #[.slice none 0 0] outer.length) 22 (0, 0)) ∧ w'.heap[s.2.2]? = some (.cells #[.slice none 0 0, .slice none 0 0] 56 (0, 0)) ∧ s.2.1 ≠ s.2.2 ∧ wc.heap.size ≤ s.2.1 ∧ wc.heap.size ≤ s.2.2 ∧ Below wc.heap.size wc w') ?_ ?_
  rotate_left
  · intro hCont
    refine three_ (i := 2) (j := 6) (k := 8) (Ni := some 16) (Nj := some 20) (Nk := some 6) #[true, true, true, true, true, true, false, false, false, false] #[true, true, false, true, true, true, true, false, false, false] #[true, true, false, true, true, true, false, false, true, false] rfl rfl rfl rfl rfl rfl (by kernel_rfl) (by decide) (by decide) (by decide) (fun K hK => ?_) (fun K hK => ?_) (fun K hK => ?_)
    · skip
      refine goes_ Tryd.func31 (by kernel_rfl) rfl #[.slice A1 inner.length c1] (by rfl) rfl rfl (by (try simp only [List.map_toArray, List.map_cons, List.map_nil]); rfl) ?_
      refine (slices_Clone_int_int.calls A1 c1 inner inner wc (Kd.C_below HI.out LC.out) HC.out.2.1 HCL.out).mono ?_
      rintro e wc2 ⟨v0, rfl, hR, hb⟩; obtain ⟨A20, c20, e20⟩ := Kd.R_slice hR; subst e20
      have R2 := Aside0.mk (Kd.R_mono (ok' := fun k => wc.heap.size ≤ k ∧ k < wc2.heap.size) (Kd.R_lower (Kd.R_bound hR) LC.out.size) (fun k hk => ⟨hk.2.1, hk.2.2.1⟩))
      clear hR
      refine ⟨_, rfl, ?_⟩
      have E2 := Aside0.mk (show Below wc.heap.size wc wc2 from hb)
      have Z2 := Aside0.mk hb.size
      clear hb
      refine hK.out _ _ ⟨(blk_cell (blk_below BC2.out E2.out) 0).trans rfl, (blk_cell (blk_below BC2.out E2.out) 1).trans rfl⟩ (fun hHeld => ?_)
      clear hK K
      refine norm_ (a' := ?_) ?_ ?_
      rotate_left
      · show Act.put _ (some 16) _ = _
        simp only [Act.put, List.setIfInBounds_toArray, List.set_cons_zero, List.set_cons_succ, i64_w, i32_w]
        rfl
      refine two_ (i := 6) (j := 8) (Ni := some 20) (Nj := some 6) #[true, true, true, true, true, true, true, false, false, false] #[true, true, true, true, true, true, false, false, true, false] rfl rfl rfl rfl (two_of HT_.out (by kernel_rfl)) (by decide) (by decide) (fun K hK => ?_) (fun K hK => ?_)
      · skip
        refine event_step (by rfl) (w1 := wc2.alloc (Obj.cells (madeCells #[Value.slice none 0 0] outer.length) 22)) (v := .slice (some ⟨wc2.heap.size, 0, none⟩) outer.length outer.length) ?_ ?_
        · have hmk := print_make_of (P := Tryd.prog) 51 22 (.slice none 0 0) 24 Tryd.underlying51 (by kernel_rfl) rfl (by omega) outer.length (by have := HL.out.1; omega) wc2
          go_simp
        obtain ⟨wc26, hwc26⟩ : ∃ W, W = wc2.alloc (Obj.cells (madeCells #[Value.slice none 0 0] outer.length) 22) := ⟨_, rfl⟩
        obtain ⟨gR, hgR⟩ : ∃ g, g = wc2.heap.size := ⟨_, rfl⟩
        rw [← hwc26, ← hgR]
        have hb : Below wc2.heap.size wc2 wc26 := by rw [hwc26]; exact below_alloc (Below.refl _ _) _
        have H6 := Aside0.mk (show wc26.heap[gR]? = some (.cells (madeCells #[.slice none 0 0] outer.length) 22 (0, 0)) by rw [hwc26, hgR]; exact blk_new _ _)
        have N6 := Aside0.mk (show gR = wc2.heap.size ∧ gR < wc26.heap.size from ⟨hgR, blk_lt H6.out⟩)
        clear hgR hwc26
        have E26 := Aside0.mk (show Below wc.heap.size wc wc26 from below_step E2.out hb)
        have Z6 := Aside0.mk hb.size
        replace R2 := Aside0.mk (Kd.R_below R2.out hb)
        clear hb
        refine hK.out _ _ ⟨(blk_cell (blk_below BC2.out E26.out) 0).trans rfl, (blk_cell (blk_below BC2.out E26.out) 1).trans rfl⟩ (fun hHeld => ?_)
        clear hK K
        refine norm_ (a' := ?_) ?_ ?_
        rotate_left
        · show Act.put _ (some 20) _ = _
          simp only [Act.put, List.setIfInBounds_toArray, List.set_cons_zero, List.set_cons_succ, i64_w, i32_w]
          rfl
        refine pure_ (i := 7) (N := some 21) (v := ?_) (a' := ?_) #[true, true, true, true, true, true, true, true, false, false] rfl rfl (any_of HT_.out (by kernel_rfl)) (fun _ _ _ h => h) (Or.inl ⟨by rfl, ?_⟩) ?_ ?_
        rotate_left
        · intro w'
          go_simp
          with_reducible rfl
        rotate_left
        · simp only [Act.put, List.setIfInBounds_toArray, List.set_cons_zero, List.set_cons_succ, i64_w, i32_w]
          rfl
        refine one_ (i := 8) (N := some 6) #[true, true, true, true, true, true, true, true, true, false] rfl rfl (one_of HT_.out (by kernel_rfl)) (by decide) (fun K hK => ?_)
        refine box_step (by rfl) (N := 6) rfl (cs := #[.slice none 0 0, .slice none 0 0]) (t := 56) (by first | (go_simp; done) | (go_simp; rfl)) ?_
        intro g6 h6 wc268 hb6 hb
        have H8 := Aside0.mk hb6
        have N8 := Aside0.mk (show g6 = wc26.heap.size ∧ g6 < wc268.heap.size from ⟨h6, blk_lt hb6⟩)
        clear hb6 h6
        have E268 := Aside0.mk (show Below wc.heap.size wc wc268 from below_step E26.out hb)
        have Z8 := Aside0.mk hb.size
        replace R2 := Aside0.mk (Kd.R_below R2.out hb)
        replace H6 := Aside0.mk (blk_below H6.out hb)
        clear hb
        refine hK.out _ _ ⟨(blk_cell (blk_below BC2.out E268.out) 0).trans rfl, (blk_cell (blk_below BC2.out E268.out) 1).trans rfl⟩ (fun hHeld => ?_)
        clear hK K
        refine norm_ (a' := ?_) ?_ ?_
        rotate_left
        · show Act.put _ (some 6) _ = _
          simp only [Act.put, List.setIfInBounds_toArray, List.set_cons_zero, List.set_cons_succ, i64_w, i32_w]
          rfl
        exact norm_ (by first | (simp only [putAll, Act.put, List.setIfInBounds_toArray, List.set_cons_zero, List.set_cons_succ]; done) | (simp only [putAll, Act.put, List.setIfInBounds_toArray, List.set_cons_zero, List.set_cons_succ]; rfl)) (hCont ((A20, c20), gR, g6) _ ⟨Kd.R_mono R2.out (fun k hk => by have a1 := hk.1; have a2 := hk.2; have a3 := N6.out; have a4 := N8.out; have a5 := Z2.out; have a6 := Z6.out; have a7 := Z8.out; refine ⟨?_, ?_, ?_⟩ <;> first | omega | (simp only; omega)), H6.out, H8.out, by have a3 := N6.out; have a4 := N8.out; have a5 := Z2.out; have a6 := Z6.out; have a7 := Z8.out; first | omega | (simp only; omega), by have a3 := N6.out; have a4 := N8.out; have a5 := Z2.out; have a6 := Z6.out; have a7 := Z8.out; first | omega | (simp only; omega), by have a3 := N6.out; have a4 := N8.out; have a5 := Z2.out; have a6 := Z6.out; have a7 := Z8.out; first | omega | (simp only; omega), E268.out⟩)
      · skip
        refine box_step (by rfl) (N := 6) rfl (cs := #[.slice none 0 0, .slice none 0 0]) (t := 56) (by first | (go_simp; done) | (go_simp; rfl)) ?_
        intro g6 h6 wc28 hb6 hb
        have H8 := Aside0.mk hb6
        have N8 := Aside0.mk (show g6 = wc2.heap.size ∧ g6 < wc28.heap.size from ⟨h6, blk_lt hb6⟩)
        clear hb6 h6
        have E28 := Aside0.mk (show Below wc.heap.size wc wc28 from below_step E2.out hb)
        have Z8 := Aside0.mk hb.size
        replace R2 := Aside0.mk (Kd.R_below R2.out hb)
        clear hb
        refine hK.out _ _ ⟨(blk_cell (blk_below BC2.out E28.out) 0).trans rfl, (blk_cell (blk_below BC2.out E28.out) 1).trans rfl⟩ (fun hHeld => ?_)
        clear hK K
        refine norm_ (a' := ?_) ?_ ?_
        rotate_left
        · show Act.put _ (some 6) _ = _
          simp only [Act.put, List.setIfInBounds_toArray, List.set_cons_zero, List.set_cons_succ, i64_w, i32_w]
          rfl
        refine one_ (i := 6) (N := some 20) #[true, true, true, true, true, true, true, false, true, false] rfl rfl (one_of HT_.out (by kernel_rfl)) (by decide) (fun K hK => ?_)
        refine event_step (by rfl) (w1 := wc28.alloc (Obj.cells (madeCells #[Value.slice none 0 0] outer.length) 22)) (v := .slice (some ⟨wc28.heap.size, 0, none⟩) outer.length outer.length) ?_ ?_
        · have hmk := print_make_of (P := Tryd.prog) 51 22 (.slice none 0 0) 24 Tryd.underlying51 (by kernel_rfl) rfl (by omega) outer.length (by have := HL.out.1; omega) wc28
          go_simp
        obtain ⟨wc286, hwc286⟩ : ∃ W, W = wc28.alloc (Obj.cells (madeCells #[Value.slice none 0 0] outer.length) 22) := ⟨_, rfl⟩
        obtain ⟨gR, hgR⟩ : ∃ g, g = wc28.heap.size := ⟨_, rfl⟩
        rw [← hwc286, ← hgR]
        have hb : Below wc28.heap.size wc28 wc286 := by rw [hwc286]; exact below_alloc (Below.refl _ _) _
        have H6 := Aside0.mk (show wc286.heap[gR]? = some (.cells (madeCells #[.slice none 0 0] outer.length) 22 (0, 0)) by rw [hwc286, hgR]; exact blk_new _ _)
        have N6 := Aside0.mk (show gR = wc28.heap.size ∧ gR < wc286.heap.size from ⟨hgR, blk_lt H6.out⟩)
        clear hgR hwc286
        have E286 := Aside0.mk (show Below wc.heap.size wc wc286 from below_step E28.out hb)
        have Z6 := Aside0.mk hb.size
        replace R2 := Aside0.mk (Kd.R_below R2.out hb)
        replace H8 := Aside0.mk (blk_below H8.out hb)
        clear hb
        refine hK.out _ _ ⟨(blk_cell (blk_below BC2.out E286.out) 0).trans rfl, (blk_cell (blk_below BC2.out E286.out) 1).trans rfl⟩ (fun hHeld => ?_)
        clear hK K
        refine norm_ (a' := ?_) ?_ ?_
        rotate_left
        · show Act.put _ (some 20) _ = _
          simp only [Act.put, List.setIfInBounds_toArray, List.set_cons_zero, List.set_cons_succ, i64_w, i32_w]
          rfl
        refine pure_ (i := 7) (N := some 21) (v := ?_) (a' := ?_) #[true, true, true, true, true, true, true, true, true, false] rfl rfl (any_of HT_.out (by kernel_rfl)) (fun _ _ _ h => h) (Or.inl ⟨by rfl, ?_⟩) ?_ ?_
        rotate_left
        · intro w'
          go_simp
          with_reducible rfl
        rotate_left
        · simp only [Act.put, List.setIfInBounds_toArray, List.set_cons_zero, List.set_cons_succ, i64_w, i32_w]
          rfl
        exact norm_ (by first | (simp only [putAll, Act.put, List.setIfInBounds_toArray, List.set_cons_zero, List.set_cons_succ]; done) | (simp only [putAll, Act.put, List.setIfInBounds_toArray, List.set_cons_zero, List.set_cons_succ]; rfl)) (hCont ((A20, c20), gR, g6) _ ⟨Kd.R_mono R2.out (fun k hk => by have a1 := hk.1; have a2 := hk.2; have a3 := N6.out; have a4 := N8.out; have a5 := Z2.out; have a6 := Z6.out; have a7 := Z8.out; refine ⟨?_, ?_, ?_⟩ <;> first | omega | (simp only; omega)), H6.out, H8.out, by have a3 := N6.out; have a4 := N8.out; have a5 := Z2.out; have a6 := Z6.out; have a7 := Z8.out; first | omega | (simp only; omega), by have a3 := N6.out; have a4 := N8.out; have a5 := Z2.out; have a6 := Z6.out; have a7 := Z8.out; first | omega | (simp only; omega), by have a3 := N6.out; have a4 := N8.out; have a5 := Z2.out; have a6 := Z6.out; have a7 := Z8.out; first | omega | (simp only; omega), E286.out⟩)
    · skip
      refine event_step (by rfl) (w1 := wc.alloc (Obj.cells (madeCells #[Value.slice none 0 0] outer.length) 22)) (v := .slice (some ⟨wc.heap.size, 0, none⟩) outer.length outer.length) ?_ ?_
      · have hmk := print_make_of (P := Tryd.prog) 51 22 (.slice none 0 0) 24 Tryd.underlying51 (by kernel_rfl) rfl (by omega) outer.length (by have := HL.out.1; omega) wc
        go_simp
      obtain ⟨wc6, hwc6⟩ : ∃ W, W = wc.alloc (Obj.cells (madeCells #[Value.slice none 0 0] outer.length) 22) := ⟨_, rfl⟩
      obtain ⟨gR, hgR⟩ : ∃ g, g = wc.heap.size := ⟨_, rfl⟩
      rw [← hwc6, ← hgR]
      have hb : Below wc.heap.size wc wc6 := by rw [hwc6]; exact below_alloc (Below.refl _ _) _
      have H6 := Aside0.mk (show wc6.heap[gR]? = some (.cells (madeCells #[.slice none 0 0] outer.length) 22 (0, 0)) by rw [hwc6, hgR]; exact blk_new _ _)
      have N6 := Aside0.mk (show gR = wc.heap.size ∧ gR < wc6.heap.size from ⟨hgR, blk_lt H6.out⟩)
      clear hgR hwc6
      have E6 := Aside0.mk (show Below wc.heap.size wc wc6 from hb)
      have Z6 := Aside0.mk hb.size
      clear hb
      refine hK.out _ _ ⟨(blk_cell (blk_below BC2.out E6.out) 0).trans rfl, (blk_cell (blk_below BC2.out E6.out) 1).trans rfl⟩ (fun hHeld => ?_)
      clear hK K
      refine norm_ (a' := ?_) ?_ ?_
      rotate_left
      · show Act.put _ (some 20) _ = _
        simp only [Act.put, List.setIfInBounds_toArray, List.set_cons_zero, List.set_cons_succ, i64_w, i32_w]
        rfl
      refine two_ (i := 2) (j := 8) (Ni := some 16) (Nj := some 6) #[true, true, true, true, true, true, true, false, false, false] #[true, true, false, true, true, true, true, false, true, false] rfl rfl rfl rfl (two_of HT_.out (by kernel_rfl)) (by decide) (by decide) (fun K hK => ?_) (fun K hK => ?_)
      · skip
        refine goes_ Tryd.func31 (by kernel_rfl) rfl #[.slice A1 inner.length c1] (by rfl) rfl rfl (by (try simp only [List.map_toArray, List.map_cons, List.map_nil]); rfl) ?_
        refine (slices_Clone_int_int.calls A1 c1 inner inner wc6 (Kd.C_below HI.out (below_step LC.out E6.out)) HC.out.2.1 HCL.out).mono ?_
        rintro e wc62 ⟨v0, rfl, hR, hb⟩; obtain ⟨A20, c20, e20⟩ := Kd.R_slice hR; subst e20
        have R2 := Aside0.mk (Kd.R_mono (ok' := fun k => wc6.heap.size ≤ k ∧ k < wc62.heap.size) (Kd.R_lower (Kd.R_bound hR) (below_step LC.out E6.out).size) (fun k hk => ⟨hk.2.1, hk.2.2.1⟩))
        clear hR
        refine ⟨_, rfl, ?_⟩
        have E62 := Aside0.mk (show Below wc.heap.size wc wc62 from below_step E6.out hb)
        have Z2 := Aside0.mk hb.size
        replace H6 := Aside0.mk (blk_below H6.out hb)
        clear hb
        refine hK.out _ _ ⟨(blk_cell (blk_below BC2.out E62.out) 0).trans rfl, (blk_cell (blk_below BC2.out E62.out) 1).trans rfl⟩ (fun hHeld => ?_)
        clear hK K
        refine norm_ (a' := ?_) ?_ ?_
        rotate_left
        · show Act.put _ (some 16) _ = _
          simp only [Act.put, List.setIfInBounds_toArray, List.set_cons_zero, List.set_cons_succ, i64_w, i32_w]
          rfl
        refine pure_ (i := 7) (N := some 21) (v := ?_) (a' := ?_) #[true, true, true, true, true, true, true, true, false, false] rfl rfl (any_of HT_.out (by kernel_rfl)) (fun _ _ _ h => h) (Or.inl ⟨by rfl, ?_⟩) ?_ ?_
        rotate_left
        · intro w'
          go_simp
          with_reducible rfl
        rotate_left
        · simp only [Act.put, List.setIfInBounds_toArray, List.set_cons_zero, List.set_cons_succ, i64_w, i32_w]
          rfl
        refine one_ (i := 8) (N := some 6) #[true, true, true, true, true, true, true, true, true, false] rfl rfl (one_of HT_.out (by kernel_rfl)) (by decide) (fun K hK => ?_)
        refine box_step (by rfl) (N := 6) rfl (cs := #[.slice none 0 0, .slice none 0 0]) (t := 56) (by first | (go_simp; done) | (go_simp; rfl)) ?_
        intro g6 h6 wc628 hb6 hb
        have H8 := Aside0.mk hb6
        have N8 := Aside0.mk (show g6 = wc62.heap.size ∧ g6 < wc628.heap.size from ⟨h6, blk_lt hb6⟩)
        clear hb6 h6
        have E628 := Aside0.mk (show Below wc.heap.size wc wc628 from below_step E62.out hb)
        have Z8 := Aside0.mk hb.size
        replace H6 := Aside0.mk (blk_below H6.out hb)
        replace R2 := Aside0.mk (Kd.R_below R2.out hb)
        clear hb
        refine hK.out _ _ ⟨(blk_cell (blk_below BC2.out E628.out) 0).trans rfl, (blk_cell (blk_below BC2.out E628.out) 1).trans rfl⟩ (fun hHeld => ?_)
        clear hK K
        refine norm_ (a' := ?_) ?_ ?_
        rotate_left
        · show Act.put _ (some 6) _ = _
          simp only [Act.put, List.setIfInBounds_toArray, List.set_cons_zero, List.set_cons_succ, i64_w, i32_w]
          rfl
        exact norm_ (by first | (simp only [putAll, Act.put, List.setIfInBounds_toArray, List.set_cons_zero, List.set_cons_succ]; done) | (simp only [putAll, Act.put, List.setIfInBounds_toArray, List.set_cons_zero, List.set_cons_succ]; rfl)) (hCont ((A20, c20), gR, g6) _ ⟨Kd.R_mono R2.out (fun k hk => by have a1 := hk.1; have a2 := hk.2; have a3 := N6.out; have a4 := N8.out; have a5 := Z2.out; have a6 := Z6.out; have a7 := Z8.out; refine ⟨?_, ?_, ?_⟩ <;> first | omega | (simp only; omega)), H6.out, H8.out, by have a3 := N6.out; have a4 := N8.out; have a5 := Z2.out; have a6 := Z6.out; have a7 := Z8.out; first | omega | (simp only; omega), by have a3 := N6.out; have a4 := N8.out; have a5 := Z2.out; have a6 := Z6.out; have a7 := Z8.out; first | omega | (simp only; omega), by have a3 := N6.out; have a4 := N8.out; have a5 := Z2.out; have a6 := Z6.out; have a7 := Z8.out; first | omega | (simp only; omega), E628.out⟩)
      · skip
        refine box_step (by rfl) (N := 6) rfl (cs := #[.slice none 0 0, .slice none 0 0]) (t := 56) (by first | (go_simp; done) | (go_simp; rfl)) ?_
        intro g6 h6 wc68 hb6 hb
        have H8 := Aside0.mk hb6
        have N8 := Aside0.mk (show g6 = wc6.heap.size ∧ g6 < wc68.heap.size from ⟨h6, blk_lt hb6⟩)
        clear hb6 h6
        have E68 := Aside0.mk (show Below wc.heap.size wc wc68 from below_step E6.out hb)
        have Z8 := Aside0.mk hb.size
        replace H6 := Aside0.mk (blk_below H6.out hb)
        clear hb
        refine hK.out _ _ ⟨(blk_cell (blk_below BC2.out E68.out) 0).trans rfl, (blk_cell (blk_below BC2.out E68.out) 1).trans rfl⟩ (fun hHeld => ?_)
        clear hK K
        refine norm_ (a' := ?_) ?_ ?_
        rotate_left
        · show Act.put _ (some 6) _ = _
          simp only [Act.put, List.setIfInBounds_toArray, List.set_cons_zero, List.set_cons_succ, i64_w, i32_w]
          rfl
        refine one_ (i := 2) (N := some 16) #[true, true, true, true, true, true, true, false, true, false] rfl rfl (one_of HT_.out (by kernel_rfl)) (by decide) (fun K hK => ?_)
        refine goes_ Tryd.func31 (by kernel_rfl) rfl #[.slice A1 inner.length c1] (by rfl) rfl rfl (by (try simp only [List.map_toArray, List.map_cons, List.map_nil]); rfl) ?_
        refine (slices_Clone_int_int.calls A1 c1 inner inner wc68 (Kd.C_below HI.out (below_step LC.out E68.out)) HC.out.2.1 HCL.out).mono ?_
        rintro e wc682 ⟨v0, rfl, hR, hb⟩; obtain ⟨A20, c20, e20⟩ := Kd.R_slice hR; subst e20
        have R2 := Aside0.mk (Kd.R_mono (ok' := fun k => wc68.heap.size ≤ k ∧ k < wc682.heap.size) (Kd.R_lower (Kd.R_bound hR) (below_step LC.out E68.out).size) (fun k hk => ⟨hk.2.1, hk.2.2.1⟩))
        clear hR
        refine ⟨_, rfl, ?_⟩
        have E682 := Aside0.mk (show Below wc.heap.size wc wc682 from below_step E68.out hb)
        have Z2 := Aside0.mk hb.size
        replace H6 := Aside0.mk (blk_below H6.out hb)
        replace H8 := Aside0.mk (blk_below H8.out hb)
        clear hb
        refine hK.out _ _ ⟨(blk_cell (blk_below BC2.out E682.out) 0).trans rfl, (blk_cell (blk_below BC2.out E682.out) 1).trans rfl⟩ (fun hHeld => ?_)
        clear hK K
        refine norm_ (a' := ?_) ?_ ?_
        rotate_left
        · show Act.put _ (some 16) _ = _
          simp only [Act.put, List.setIfInBounds_toArray, List.set_cons_zero, List.set_cons_succ, i64_w, i32_w]
          rfl
        refine pure_ (i := 7) (N := some 21) (v := ?_) (a' := ?_) #[true, true, true, true, true, true, true, true, true, false] rfl rfl (any_of HT_.out (by kernel_rfl)) (fun _ _ _ h => h) (Or.inl ⟨by rfl, ?_⟩) ?_ ?_
        rotate_left
        · intro w'
          go_simp
          with_reducible rfl
        rotate_left
        · simp only [Act.put, List.setIfInBounds_toArray, List.set_cons_zero, List.set_cons_succ, i64_w, i32_w]
          rfl
        exact norm_ (by first | (simp only [putAll, Act.put, List.setIfInBounds_toArray, List.set_cons_zero, List.set_cons_succ]; done) | (simp only [putAll, Act.put, List.setIfInBounds_toArray, List.set_cons_zero, List.set_cons_succ]; rfl)) (hCont ((A20, c20), gR, g6) _ ⟨Kd.R_mono R2.out (fun k hk => by have a1 := hk.1; have a2 := hk.2; have a3 := N6.out; have a4 := N8.out; have a5 := Z2.out; have a6 := Z6.out; have a7 := Z8.out; refine ⟨?_, ?_, ?_⟩ <;> first | omega | (simp only; omega)), H6.out, H8.out, by have a3 := N6.out; have a4 := N8.out; have a5 := Z2.out; have a6 := Z6.out; have a7 := Z8.out; first | omega | (simp only; omega), by have a3 := N6.out; have a4 := N8.out; have a5 := Z2.out; have a6 := Z6.out; have a7 := Z8.out; first | omega | (simp only; omega), by have a3 := N6.out; have a4 := N8.out; have a5 := Z2.out; have a6 := Z6.out; have a7 := Z8.out; first | omega | (simp only; omega), E682.out⟩)
    · skip
      refine box_step (by rfl) (N := 6) rfl (cs := #[.slice none 0 0, .slice none 0 0]) (t := 56) (by first | (go_simp; done) | (go_simp; rfl)) ?_
      intro g6 h6 wc8 hb6 hb
      have H8 := Aside0.mk hb6
      have N8 := Aside0.mk (show g6 = wc.heap.size ∧ g6 < wc8.heap.size from ⟨h6, blk_lt hb6⟩)
      clear hb6 h6
      have E8 := Aside0.mk (show Below wc.heap.size wc wc8 from hb)
      have Z8 := Aside0.mk hb.size
      clear hb
      refine hK.out _ _ ⟨(blk_cell (blk_below BC2.out E8.out) 0).trans rfl, (blk_cell (blk_below BC2.out E8.out) 1).trans rfl⟩ (fun hHeld => ?_)
      clear hK K
      refine norm_ (a' := ?_) ?_ ?_
      rotate_left
      · show Act.put _ (some 6) _ = _
        simp only [Act.put, List.setIfInBounds_toArray, List.set_cons_zero, List.set_cons_succ, i64_w, i32_w]
        rfl
      refine two_ (i := 2) (j := 6) (Ni := some 16) (Nj := some 20) #[true, true, true, true, true, true, false, false, true, false] #[true, true, false, true, true, true, true, false, true, false] rfl rfl rfl rfl (two_of HT_.out (by kernel_rfl)) (by decide) (by decide) (fun K hK => ?_) (fun K hK => ?_)
      · skip
        refine goes_ Tryd.func31 (by kernel_rfl) rfl #[.slice A1 inner.length c1] (by rfl) rfl rfl (by (try simp only [List.map_toArray, List.map_cons, List.map_nil]); rfl) ?_
        refine (slices_Clone_int_int.calls A1 c1 inner inner wc8 (Kd.C_below HI.out (below_step LC.out E8.out)) HC.out.2.1 HCL.out).mono ?_
        rintro e wc82 ⟨v0, rfl, hR, hb⟩; obtain ⟨A20, c20, e20⟩ := Kd.R_slice hR; subst e20
        have R2 := Aside0.mk (Kd.R_mono (ok' := fun k => wc8.heap.size ≤ k ∧ k < wc82.heap.size) (Kd.R_lower (Kd.R_bound hR) (below_step LC.out E8.out).size) (fun k hk => ⟨hk.2.1, hk.2.2.1⟩))
        clear hR
        refine ⟨_, rfl, ?_⟩
        have E82 := Aside0.mk (show Below wc.heap.size wc wc82 from below_step E8.out hb)
        have Z2 := Aside0.mk hb.size
        replace H8 := Aside0.mk (blk_below H8.out hb)
        clear hb
        refine hK.out _ _ ⟨(blk_cell (blk_below BC2.out E82.out) 0).trans rfl, (blk_cell (blk_below BC2.out E82.out) 1).trans rfl⟩ (fun hHeld => ?_)
        clear hK K
        refine norm_ (a' := ?_) ?_ ?_
        rotate_left
        · show Act.put _ (some 16) _ = _
          simp only [Act.put, List.setIfInBounds_toArray, List.set_cons_zero, List.set_cons_succ, i64_w, i32_w]
          rfl
        refine one_ (i := 6) (N := some 20) #[true, true, true, true, true, true, true, false, true, false] rfl rfl (one_of HT_.out (by kernel_rfl)) (by decide) (fun K hK => ?_)
        refine event_step (by rfl) (w1 := wc82.alloc (Obj.cells (madeCells #[Value.slice none 0 0] outer.length) 22)) (v := .slice (some ⟨wc82.heap.size, 0, none⟩) outer.length outer.length) ?_ ?_
        · have hmk := print_make_of (P := Tryd.prog) 51 22 (.slice none 0 0) 24 Tryd.underlying51 (by kernel_rfl) rfl (by omega) outer.length (by have := HL.out.1; omega) wc82
          go_simp
        obtain ⟨wc826, hwc826⟩ : ∃ W, W = wc82.alloc (Obj.cells (madeCells #[Value.slice none 0 0] outer.length) 22) := ⟨_, rfl⟩
        obtain ⟨gR, hgR⟩ : ∃ g, g = wc82.heap.size := ⟨_, rfl⟩
        rw [← hwc826, ← hgR]
        have hb : Below wc82.heap.size wc82 wc826 := by rw [hwc826]; exact below_alloc (Below.refl _ _) _
        have H6 := Aside0.mk (show wc826.heap[gR]? = some (.cells (madeCells #[.slice none 0 0] outer.length) 22 (0, 0)) by rw [hwc826, hgR]; exact blk_new _ _)
        have N6 := Aside0.mk (show gR = wc82.heap.size ∧ gR < wc826.heap.size from ⟨hgR, blk_lt H6.out⟩)
        clear hgR hwc826
        have E826 := Aside0.mk (show Below wc.heap.size wc wc826 from below_step E82.out hb)
        have Z6 := Aside0.mk hb.size
        replace H8 := Aside0.mk (blk_below H8.out hb)
        replace R2 := Aside0.mk (Kd.R_below R2.out hb)
        clear hb
        refine hK.out _ _ ⟨(blk_cell (blk_below BC2.out E826.out) 0).trans rfl, (blk_cell (blk_below BC2.out E826.out) 1).trans rfl⟩ (fun hHeld => ?_)
        clear hK K
        refine norm_ (a' := ?_) ?_ ?_
        rotate_left
        · show Act.put _ (some 20) _ = _
          simp only [Act.put, List.setIfInBounds_toArray, List.set_cons_zero, List.set_cons_succ, i64_w, i32_w]
          rfl
        refine pure_ (i := 7) (N := some 21) (v := ?_) (a' := ?_) #[true, true, true, true, true, true, true, true, true, false] rfl rfl (any_of HT_.out (by kernel_rfl)) (fun _ _ _ h => h) (Or.inl ⟨by rfl, ?_⟩) ?_ ?_
        rotate_left
        · intro w'
          go_simp
          with_reducible rfl
        rotate_left
        · simp only [Act.put, List.setIfInBounds_toArray, List.set_cons_zero, List.set_cons_succ, i64_w, i32_w]
          rfl
        exact norm_ (by first | (simp only [putAll, Act.put, List.setIfInBounds_toArray, List.set_cons_zero, List.set_cons_succ]; done) | (simp only [putAll, Act.put, List.setIfInBounds_toArray, List.set_cons_zero, List.set_cons_succ]; rfl)) (hCont ((A20, c20), gR, g6) _ ⟨Kd.R_mono R2.out (fun k hk => by have a1 := hk.1; have a2 := hk.2; have a3 := N6.out; have a4 := N8.out; have a5 := Z2.out; have a6 := Z6.out; have a7 := Z8.out; refine ⟨?_, ?_, ?_⟩ <;> first | omega | (simp only; omega)), H6.out, H8.out, by have a3 := N6.out; have a4 := N8.out; have a5 := Z2.out; have a6 := Z6.out; have a7 := Z8.out; first | omega | (simp only; omega), by have a3 := N6.out; have a4 := N8.out; have a5 := Z2.out; have a6 := Z6.out; have a7 := Z8.out; first | omega | (simp only; omega), by have a3 := N6.out; have a4 := N8.out; have a5 := Z2.out; have a6 := Z6.out; have a7 := Z8.out; first | omega | (simp only; omega), E826.out⟩)
      · skip
        refine event_step (by rfl) (w1 := wc8.alloc (Obj.cells (madeCells #[Value.slice none 0 0] outer.length) 22)) (v := .slice (some ⟨wc8.heap.size, 0, none⟩) outer.length outer.length) ?_ ?_
        · have hmk := print_make_of (P := Tryd.prog) 51 22 (.slice none 0 0) 24 Tryd.underlying51 (by kernel_rfl) rfl (by omega) outer.length (by have := HL.out.1; omega) wc8
          go_simp
        obtain ⟨wc86, hwc86⟩ : ∃ W, W = wc8.alloc (Obj.cells (madeCells #[Value.slice none 0 0] outer.length) 22) := ⟨_, rfl⟩
        obtain ⟨gR, hgR⟩ : ∃ g, g = wc8.heap.size := ⟨_, rfl⟩
        rw [← hwc86, ← hgR]
        have hb : Below wc8.heap.size wc8 wc86 := by rw [hwc86]; exact below_alloc (Below.refl _ _) _
        have H6 := Aside0.mk (show wc86.heap[gR]? = some (.cells (madeCells #[.slice none 0 0] outer.length) 22 (0, 0)) by rw [hwc86, hgR]; exact blk_new _ _)
        have N6 := Aside0.mk (show gR = wc8.heap.size ∧ gR < wc86.heap.size from ⟨hgR, blk_lt H6.out⟩)
        clear hgR hwc86
        have E86 := Aside0.mk (show Below wc.heap.size wc wc86 from below_step E8.out hb)
        have Z6 := Aside0.mk hb.size
        replace H8 := Aside0.mk (blk_below H8.out hb)
        clear hb
        refine hK.out _ _ ⟨(blk_cell (blk_below BC2.out E86.out) 0).trans rfl, (blk_cell (blk_below BC2.out E86.out) 1).trans rfl⟩ (fun hHeld => ?_)
        clear hK K
        refine norm_ (a' := ?_) ?_ ?_
        rotate_left
        · show Act.put _ (some 20) _ = _
          simp only [Act.put, List.setIfInBounds_toArray, List.set_cons_zero, List.set_cons_succ, i64_w, i32_w]
          rfl
        refine one_ (i := 2) (N := some 16) #[true, true, true, true, true, true, true, false, true, false] rfl rfl (one_of HT_.out (by kernel_rfl)) (by decide) (fun K hK => ?_)
        refine goes_ Tryd.func31 (by kernel_rfl) rfl #[.slice A1 inner.length c1] (by rfl) rfl rfl (by (try simp only [List.map_toArray, List.map_cons, List.map_nil]); rfl) ?_
        refine (slices_Clone_int_int.calls A1 c1 inner inner wc86 (Kd.C_below HI.out (below_step LC.out E86.out)) HC.out.2.1 HCL.out).mono ?_
        rintro e wc862 ⟨v0, rfl, hR, hb⟩; obtain ⟨A20, c20, e20⟩ := Kd.R_slice hR; subst e20
        have R2 := Aside0.mk (Kd.R_mono (ok' := fun k => wc86.heap.size ≤ k ∧ k < wc862.heap.size) (Kd.R_lower (Kd.R_bound hR) (below_step LC.out E86.out).size) (fun k hk => ⟨hk.2.1, hk.2.2.1⟩))
        clear hR
        refine ⟨_, rfl, ?_⟩
        have E862 := Aside0.mk (show Below wc.heap.size wc wc862 from below_step E86.out hb)
        have Z2 := Aside0.mk hb.size
        replace H8 := Aside0.mk (blk_below H8.out hb)
        replace H6 := Aside0.mk (blk_below H6.out hb)
        clear hb
        refine hK.out _ _ ⟨(blk_cell (blk_below BC2.out E862.out) 0).trans rfl, (blk_cell (blk_below BC2.out E862.out) 1).trans rfl⟩ (fun hHeld => ?_)
        clear hK K
        refine norm_ (a' := ?_) ?_ ?_
        rotate_left
        · show Act.put _ (some 16) _ = _
          simp only [Act.put, List.setIfInBounds_toArray, List.set_cons_zero, List.set_cons_succ, i64_w, i32_w]
          rfl
        refine pure_ (i := 7) (N := some 21) (v := ?_) (a' := ?_) #[true, true, true, true, true, true, true, true, true, false] rfl rfl (any_of HT_.out (by kernel_rfl)) (fun _ _ _ h => h) (Or.inl ⟨by rfl, ?_⟩) ?_ ?_
        rotate_left
        · intro w'
          go_simp
          with_reducible rfl
        rotate_left
        · simp only [Act.put, List.setIfInBounds_toArray, List.set_cons_zero, List.set_cons_succ, i64_w, i32_w]
          rfl
        exact norm_ (by first | (simp only [putAll, Act.put, List.setIfInBounds_toArray, List.set_cons_zero, List.set_cons_succ]; done) | (simp only [putAll, Act.put, List.setIfInBounds_toArray, List.set_cons_zero, List.set_cons_succ]; rfl)) (hCont ((A20, c20), gR, g6) _ ⟨Kd.R_mono R2.out (fun k hk => by have a1 := hk.1; have a2 := hk.2; have a3 := N6.out; have a4 := N8.out; have a5 := Z2.out; have a6 := Z6.out; have a7 := Z8.out; refine ⟨?_, ?_, ?_⟩ <;> first | omega | (simp only; omega)), H6.out, H8.out, by have a3 := N6.out; have a4 := N8.out; have a5 := Z2.out; have a6 := Z6.out; have a7 := Z8.out; first | omega | (simp only; omega), by have a3 := N6.out; have a4 := N8.out; have a5 := Z2.out; have a6 := Z6.out; have a7 := Z8.out; first | omega | (simp only; omega), by have a3 := N6.out; have a4 := N8.out; have a5 := Z2.out; have a6 := Z6.out; have a7 := Z8.out; first | omega | (simp only; omega), E862.out⟩)
  rintro ⟨⟨At, ct⟩, gR, g6⟩ wd ⟨hR, hgr, hb6, hgne, hgs, hgs6, hb⟩
  simp only at hR hgr hb6 hgne hgs hgs6
  have B6 := Aside0.mk hb6
  have RD := Aside0.mk hR
  have GD := Aside0.mk hgr
  have LD := Aside0.mk (below_step LC.out hb)
  have BD2 := Aside0.mk (blk_below BC2.out hb)
  have BD5 := Aside0.mk (blk_below BC5.out hb)
  have SD := Aside0.mk (Kd.S_below SC.out hb)
  have NE := Aside0.mk (show g2 ≠ g6 ∧ g5 ≠ g6 ∧ gR ≠ g6 ∧ g5 ≠ gR ∧ w7.heap.size ≤ g5 ∧ w7.heap.size ≤ gR ∧ w.heap.size ≤ g6 ∧ w.heap.size ≤ gR ∧ w7.heap.size ≤ g6 by
    have h1 := blk_lt BC2.out; have h2 := ZC.out; have h3 := LC.out.size; refine ⟨?_, ?_, ?_, ?_, ?_, ?_, ?_, ?_, ?_⟩ <;> omega)
  clear hR hgr hgs hgs6 hgne hb6 hb LC BC2 BC5 SC
  have hHeld : wd.cell? ⟨g2, 0, none⟩ = some (.slice A0 outer.length c0) ∧ wd.cell? ⟨g2, 1, none⟩ = some (.slice A1 inner.length c1) := ⟨(blk_cell BD2.out 0).trans rfl, (blk_cell BD2.out 1).trans rfl⟩
  refine norm_ (a' := ?_) ?_ ?_
  rotate_left
  · simp only [putAll, Act.put, List.setIfInBounds_toArray, List.set_cons_zero, List.set_cons_succ]
    rfl
  refine one_ (i := 9) (N := none) #[true, true, true, true, true, true, true, true, true, true] rfl rfl (one_of HT_.out (by kernel_rfl)) (by decide) (fun K hK => ?_)
  have hs0 : wd.cell? ⟨g6, 0, none⟩ = some (.slice none 0 0) := (blk_cell B6.out 0).trans rfl
  have hs1 : wd.cell? ⟨g6, 1, none⟩ = some (.slice none 0 0) := (blk_cell B6.out 1).trans rfl
  have hf0 := blk_frozen B6.out 0
  have hf1 := blk_frozen B6.out 1
  refine skip_ (w1 := (wd.setCell ⟨g6, 0, none⟩ (.slice At inner.length ct)).setCell ⟨g6, 1, none⟩ (.slice (some ⟨gR, 0, none⟩) outer.length outer.length)) (by rfl) rfl ?_ ?_
  · go_simp
  clear hs0 hs1 hf0 hf1
  have BF6 := Aside0.mk (show ((wd.setCell ⟨g6, 0, none⟩ (.slice At inner.length ct)).setCell ⟨g6, 1, none⟩ (.slice (some ⟨gR, 0, none⟩) outer.length outer.length)).heap[g6]? = some (.cells #[.slice At inner.length ct, .slice (some ⟨gR, 0, none⟩) outer.length outer.length] 56 (0, 0)) from blk_put (blk_put B6.out 0 _ rfl) 1 _ rfl)
  have BF2 := Aside0.mk (blk_far (blk_far BD2.out (p := ⟨g6, 0, none⟩) NE.out.1 (.slice At inner.length ct)) (p := ⟨g6, 1, none⟩) NE.out.1 (.slice (some ⟨gR, 0, none⟩) outer.length outer.length))
  have BF5 := Aside0.mk (blk_far (blk_far BD5.out (p := ⟨g6, 0, none⟩) NE.out.2.1 (.slice At inner.length ct)) (p := ⟨g6, 1, none⟩) NE.out.2.1 (.slice (some ⟨gR, 0, none⟩) outer.length outer.length))
  have GF := Aside0.mk (blk_far (blk_far GD.out (p := ⟨g6, 0, none⟩) NE.out.2.2.1 (.slice At inner.length ct)) (p := ⟨g6, 1, none⟩) NE.out.2.2.1 (.slice (some ⟨gR, 0, none⟩) outer.length outer.length))
  have LF := Aside0.mk (show Below w.heap.size w ((wd.setCell ⟨g6, 0, none⟩ (.slice At inner.length ct)).setCell ⟨g6, 1, none⟩ (.slice (some ⟨gR, 0, none⟩) outer.length outer.length)) from (LD.out.setCell NE.out.2.2.2.2.2.2.1 _).setCell NE.out.2.2.2.2.2.2.1 _)
  have RF := Aside0.mk (Kd.R_far (p := ⟨g6, 1, none⟩) (Kd.R_far (p := ⟨g6, 0, none⟩) RD.out (fun k hk => hk.2.1) (.slice At inner.length ct)) (fun k hk => hk.2.1) (.slice (some ⟨gR, 0, none⟩) outer.length outer.length))
  have SF := Aside0.mk (Kd.S_far (p := ⟨g6, 1, none⟩) (Kd.S_far (p := ⟨g6, 0, none⟩) SD.out (fun k hk e => by have h1 := hk.2; have h2 := NE.out; simp only at e; omega) (.slice At inner.length ct)) (fun k hk e => by have h1 := hk.2; have h2 := NE.out; simp only at e; omega) (.slice (some ⟨gR, 0, none⟩) outer.length outer.length))
  refine hK.out _ _ ⟨(blk_cell BF2.out 0).trans rfl, (blk_cell BF2.out 1).trans rfl⟩ (fun hHeld => ?_)
  clear hK K
  refine done_ (done_of HT_.out (by kernel_rfl)) ?_
  clear hHeld B6 GD RD SD BD2 BD5 LD
  generalize (wd.setCell ⟨g6, 0, none⟩ (.slice At inner.length ct)).setCell ⟨g6, 1, none⟩ (.slice (some ⟨gR, 0, none⟩) outer.length outer.length) = wf at BF6 BF2 BF5 GF LF RF SF ⊢
  have hST : impl_grow.St wf w.heap.size g5 gR (fun k => k = gR) (fun k => w2.heap.size ≤ k ∧ k < w7.heap.size) (List.replicate outer.length []) [] := ⟨impl_tableaux.rowsAt_new rfl NE.out.2.2.2.2.2.2.2.1 GF.out, ⟨_, BF5.out, SF.out⟩, fun k hk h2 => by have := NE.out; omega, NE.out.2.2.2.1, fun h => by have := NE.out; omega, HG5.out, fun k hk => by
      have h1 := blk_lt GF.out; have h2 := blk_lt BF5.out; have h3 := NE.out; rcases hk with h | h <;> omega, fun v hv => by
      rw [BF5.out] at hv
      obtain rfl : Value.slice A7 n7 c7 = v := by simpa using hv
      exact VN.out⟩
  have hM : ∀ k, impl_grow.Mg g5 (fun k => k = gR) (fun k => w2.heap.size ≤ k ∧ k < w7.heap.size) k → w.heap.size ≤ k := fun k hk => by
    have h1 := NE.out; have h2 := HG5.out; have h3 := Z2.out
    rcases hk with h | h | h <;> omega
  have hRk : ∀ k, (k ≠ gR ∧ k ≠ g6 ∧ wc.heap.size ≤ k) → ¬ impl_grow.Mg g5 (fun k => k = gR) (fun k => w2.heap.size ≤ k ∧ k < w7.heap.size) k := fun k hk h => by
    have h1 := ZC.out; have h2 := NE.out
    rcases h with h | h | h <;> omega
  have hgrow := (impl_grow.ok w.heap.size g5 gR outer inner A0 A1 At c0 c1 ct HC.out.1 HC.out.2.1 (Kd.R_reads' RF.out).2.1 HBW.out.1 HBW.out.2.1 HL.out.1 HL.out.2.1 ws HBW.out.2.2) 1 (List.replicate outer.length []) [] _ _ wf A2 c2 hST (by simp) (fun r hr => by rw [(List.mem_replicate.1 hr).2]; have := HL.out.2.2.2; simp; omega) (by omega) (by have := HL.out.2.2.1; omega) (by have := HGL.out; simpa using this)
    (Kd.C_kept_came (Kd.heap_int _) HO.out LF.out hM) (Kd.C_kept_came (Kd.heap_int _) HI.out LF.out hM) (Kd.C_kept_own RF.out hRk) (Kd.C_kept_came (Kd.heap_int _) HW.out LF.out hM) HC.out.2.2
  have HGROW := Aside0.mk hgrow
  clear hgrow hST hM hRk
  have x2 := (blk_cell BF2.out 0).trans rfl
  have y2 := (blk_cell BF2.out 1).trans rfl
  have x6 := (blk_cell BF6.out 0).trans rfl
  have y6 := (blk_cell BF6.out 1).trans rfl
  go_wp2_with (first
    | ((with_reducible refine gate_callee (f := 137) rfl ?_); refine goesL_ (some 26) rfl rfl Tryd.func137 (by kernel_rfl) rfl #[.agg #[.slice A0 outer.length c0, .slice A1 inner.length c1], .agg #[.slice At inner.length ct, .slice (some ⟨gR, 0, none⟩) outer.length outer.length], .int .i64 1, .slice A2 ws.length c2, .func (.func 138) #[] #[.pointer (some ⟨g5, 0, none⟩)]] rfl (by (try simp only [List.map_toArray, List.map_cons, List.map_nil]); rfl) ?_; refine HGROW.out.mono ?_; rintro e wg ⟨rfl, hD⟩; refine ⟨_, rfl, ?_⟩; obtain ⟨T', O', hst, hk, hM, hb⟩ := hD; obtain ⟨vs, hvs, hS⟩ := hst.out; have hmd := hst.made vs hvs; have SG := Aside0.mk hS; have BG5 := Aside0.mk hvs; have MG := Aside0.mk hmd; have NG := Aside0.mk (And.intro hst.goO hM); have LG := Aside0.mk (show Below w.heap.size w wg from LF.out.trans hb); clear hst hk hM hb hvs hS hmd x2 y2 x6 y6; rw [List.nil_append] at SG; obtain ⟨gs, cs, hvs2, hOg⟩ := impl_tableaux.S_at SG.out MG.out; subst hvs2; have HOG := Aside0.mk (show g5 ≠ gs from fun e => NG.out.1 (e ▸ hOg)); clear hOg; have x5 := (blk_cell BG5.out 0).trans rfl)
    | ((with_reducible refine gate_callee (f := 139) rfl ?_); refine goesL_ (some 28) rfl rfl Tryd.func139 (by kernel_rfl) rfl #[.slice (some ⟨gs, 0, none⟩) (Gr.growL outer inner ws (List.replicate outer.length []) 1).length cs, .func (.func 140) #[] #[]] rfl (by (try simp only [List.map_toArray, List.map_cons, List.map_nil]); rfl) ?_; have hsort := (impl_tableaux_2.sort_S wg gs cs w.heap.size k O' _ SG.out HT.out.1 (by have := HGL.out; rw [List.length_map]; omega) (fun x hx => by obtain ⟨r, hr, rfl⟩ := List.mem_map.1 hx; exact HT.out.2 r hr)); rw [List.length_map] at hsort; refine hsort.mono ?_; clear hsort; rintro e wh ⟨rfl, ts', hperm, hpw, hS, hk, hb⟩; refine ⟨_, rfl, ?_⟩; have PH := Aside0.mk (And.intro hperm hpw); have SH := Aside0.mk hS; have LH := Aside0.mk (LG.out.trans hb); have BH5 := Aside0.mk (blk_kept BG5.out hk HOG.out); clear hperm hpw hS hk hb x5; have x5 := (blk_cell BH5.out 0).trans rfl))
  go_ret
  exact ⟨_, rfl, ⟨ts', PH.out.1, PH.out.2, Kd.S_mono SH.out (fun _ _ => trivial)⟩, LH.out⟩
end Go.Proofs.YtppkfgcnmaifmaaDoor.Hb
