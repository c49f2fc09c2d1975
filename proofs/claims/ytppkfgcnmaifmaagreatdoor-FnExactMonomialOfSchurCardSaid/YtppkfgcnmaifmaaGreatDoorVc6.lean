/- What the proof of the law leans on, part 6 of 6: contracts of the functions that it reaches, the words they are told in (laid by the kit's print.sh, here only as far as they are used), and what they come to. -/
import Derived.Test.YtppkfgcnmaifmaaGreatDoorProg
import Derived.Below
import Derived.Deep.Draws
import Derived.Deep.AppendLies
import Derived.Maps.AppendAt
import Derived.OwnWalk
import Derived.Laws.BytesArg
import Derived.Laws.MakeOwn
import Derived.Laws.OwnMore
import Derived.Deep.OwnRows
import Derived.Tactics
import Derived.Lib.ConvBytes
import Derived.Laws.Slices
import Derived.WalkKit
import Derived.KernelRfl
import Derived.RowKit3
import Derived.Deep.LoopGhost
import Derived.Deep.QuietTactic
import Derived.BigQuiet
import Derived.WideLaws
import Derived.Deep.DeepCutAuto
import Derived.Deep.CutBlock
import Derived.Deep.RegionHeld3
import Derived.Laws.Rows
import Derived.Lib.AppendStr
import Derived.ArgAppend
import Derived.Laws.IdiomCopy
import Derived.OrdersHeld
import Derived.Laws.BitsLemmas
import Derived.RowKit
import Derived.Test.YtppkfgcnmaifmaaGreatDoorVc5
namespace Go.Proofs.YtppkfgcnmaifmaaGreatDoor.Hb
open Go.RowKit Go.Proofs.YtppkfgcnmaifmaaGreatDoorW.PrintWords Go.Proofs.YtppkfgcnmaifmaaGreatDoorW.PrintLast Go.Proofs.YtppkfgcnmaifmaaGreatDoorW.PrintMore
attribute [local go_sem] max2_int min2_int max_two min_two max_three min_three max_four min_four   -- for this text's walks alone
set_option linter.unusedVariables false
set_option linter.unusedSimpArgs false
def spec_MonomialOfSchur.l0 : Nat → List Int → List Int → List (List Int) → Int → Option (List Int)
  | 0, _, _, _, _ => none
  | k + 1, x0, x3, x4, x5 => if x5 < (x4.length : Int) then (if 0 ≤ x5 then ((spec_l7Count.f k (([] : List Int)) x0 (rd_L3 x4 x5) 0).bind fun t345 => (if x3.length < 17592186044416 then (spec_MonomialOfSchur.l0 k x0 (x3 ++ [t345]) x4 (wrap64 (x5 + 1))) else (none))) else (none)) else (some x3)
def spec_MonomialOfSchur.f (k : Nat) (l0 : List Int) : Option (List Int) := (some (([] : List Int) : List Int)).bind fun y333 => ((spec_l21Fine.f k l0).bind fun t336 => (if t336 = true then ((spec_l2Size.f k l0).bind fun t337 => ((spec_PartitionsOf.f k t337).bind fun t338 => (spec_MonomialOfSchur.l0 k l0 y333 t338 0))) else (some y333)))
set_option maxHeartbeats 8000000 in
set_option maxRecDepth 100000 in
theorem spec_MonomialOfSchur.calls (k : Nat) (A0 : Option Addr) (c0 : Nat) (l0 : List Int) (r : List Int) (w : World) (hr0 : Kd.C (Kd.int .i64) w A0 l0.length l0) (hc0 : l0.length ≤ c0) (h : spec_MonomialOfSchur.f k l0 = some r) :
  Calls Tryz.prog 28 #[.slice A0 l0.length c0] w fun e w' => ∃ v0_ : Value, e = .returned (v0_) ∧ Kd.R (Kd.int .i64) 3 w' w.heap.size (fun _ => True) v0_ r ∧ Below w.heap.size w w' := by
 have HR0 := Aside0.mk hr0
 have HC0 := Aside0.mk hc0
 clear hr0 hc0
 have HB := Aside0.mk (Below.refl w.heap.size w)
 have H : ((some (([] : List Int) : List Int)).bind fun y333 => ((spec_l21Fine.f k l0).bind fun t336 => (if t336 = true then ((spec_l2Size.f k l0).bind fun t337 => ((spec_PartitionsOf.f k t337).bind fun t338 => (spec_MonomialOfSchur.l0 k l0 y333 t338 0))) else (some y333)))) = some r := h
 clear h
 obtain ⟨y333, hy333⟩ : ∃ y_ : List Int, y_ = (([] : List Int)) := ⟨_, rfl⟩
 replace H : ((spec_l21Fine.f k l0).bind fun t336 => (if t336 = true then ((spec_l2Size.f k l0).bind fun t337 => ((spec_PartitionsOf.f k t337).bind fun t338 => (spec_MonomialOfSchur.l0 k l0 y333 t338 0))) else (some y333))) = some r := by first | (rw [hy333]; with_reducible exact H) | (have H2_ := (Option.bind_some _ _).symm.trans H; rw [hy333]; with_reducible exact H2_) | (have H2_ := (Option.bind_some _ _).symm.trans H; with_reducible exact H2_) | with_reducible exact H | (rw [hy333]; exact H) | exact H
 have Ny333 := Aside0.mk hy333
 clear hy333
 replace H := Option.bind_eq_some_iff.mp H
 obtain ⟨t336, A20, H⟩ := H
 replace H : (if t336 = true then ((spec_l2Size.f k l0).bind fun t337 => ((spec_PartitionsOf.f k t337).bind fun t338 => (spec_MonomialOfSchur.l0 k l0 y333 t338 0))) else (some y333)) = some r := H
 have A2 := Aside0.mk A20
 clear A20
 by_cases c3 : t336 = true
 ·
  subst c3
  have H1 : ((spec_l2Size.f k l0).bind fun t337 => ((spec_PartitionsOf.f k t337).bind fun t338 => (spec_MonomialOfSchur.l0 k l0 y333 t338 0))) = some r := by rw [if_pos rfl] at H; exact H
  clear H
  have H := H1
  clear H1
  replace H := Option.bind_eq_some_iff.mp H
  obtain ⟨t337, A40, H⟩ := H
  replace H : ((spec_PartitionsOf.f k t337).bind fun t338 => (spec_MonomialOfSchur.l0 k l0 y333 t338 0)) = some r := H
  have A4 := Aside0.mk A40
  clear A40
  replace H := Option.bind_eq_some_iff.mp H
  obtain ⟨t338, A50, H⟩ := H
  replace H : (spec_MonomialOfSchur.l0 k l0 y333 t338 0) = some r := H
  have A5 := Aside0.mk A50
  clear A50
  have H' := Aside0.mk H
  clear H
  go_enter Tryz.func28, Tryz.ntmps28
  go_wp2_with (first | ((with_reducible refine gate_dst (N := 6) rfl ?_); refine Kd.R_lit (Kd.int .i64) _ 3 ?hg (N := 6) ?hd (xs := ([] : List Int)) (inner := []) (ok := fun _ => True) (okp := fun _ => True) ?hr ?hp (fun _ hk => hk) trivial (Below.refl _ _) (Nat.le_refl _) (by simp) ?_; (case hd => rfl); (case hg => rfl); (case hr => first | (go_simp; done) | (go_simp; rfl)); (case hp => exact (Reps.none _ _)); intro v334 w6 ho7 hb hg_ hnew_; clear hg_ hnew_; (first | rw [← Ny333.out] at ho7 | (simp only [Int.reduceToNat] at ho7; rw [← Ny333.out] at ho7)); have n0_ := Aside0.mk (Kd.R_lower ho7 (below_size (by repeat (first | (with_reducible first | exact HB.out | apply below_alloc | apply pw_below_drewN | apply below_drew1) | exact HB.out)))); have n1_ := Aside0.mk (below_step (by repeat (first | (with_reducible first | exact HB.out | apply below_alloc | apply pw_below_drewN | apply below_drew1) | exact HB.out)) hb); clear HB; have HO335 := n0_; have HB := n1_; clear n0_ n1_; clear hb ho7) | ((with_reducible refine gate_callee (f := 70) rfl ?_); refine goesL_ (some 8) rfl rfl Tryz.func70 (by kernel_rfl) rfl #[.slice A0 l0.length c0] rfl (by (try simp only [List.map_toArray, List.map_cons, List.map_nil]); first | done | rfl | (simp only [List.length_drop, List.length_take]; rfl)) ?_; (with_reducible refine (spec_l21Fine.calls k _ _ l0 true _ ?side1 ?side2 A2.out).mono ?_); (case side1 => repeat (first | exact (Kd.C_below HR0.out HB.out) | (with_reducible refine Kd.C_alloc ?_ _) | (with_reducible refine Kd.C_drewN ?_ _) | (with_reducible refine Kd.C_drew ?_))); (case side2 => exact HC0.out); rintro e w' ⟨rfl, ⟨nd, rfl⟩⟩; refine ⟨_, rfl, ?_⟩) | ((with_reducible refine gate_callee (f := 55) rfl ?_); refine goesL_ (some 12) rfl rfl Tryz.func55 (by kernel_rfl) rfl #[.slice A0 l0.length c0] rfl (by (try simp only [List.map_toArray, List.map_cons, List.map_nil]); first | done | rfl | (simp only [List.length_drop, List.length_take]; rfl)) ?_; (with_reducible refine (spec_l2Size.calls k _ _ l0 t337 _ ?side1 ?side2 A4.out).mono ?_); (case side1 => repeat (first | exact (Kd.C_below HR0.out (by repeat (first | (with_reducible first | exact HB.out | apply below_alloc | apply pw_below_drewN | apply below_drew1) | exact HB.out))) | (with_reducible refine Kd.C_alloc ?_ _) | (with_reducible refine Kd.C_drewN ?_ _) | (with_reducible refine Kd.C_drew ?_))); (case side2 => exact HC0.out); rintro e w' ⟨rfl, ⟨nd, rfl⟩⟩; refine ⟨_, rfl, ?_⟩) | ((with_reducible refine gate_callee (f := 24) rfl ?_); refine goesL_ (some 13) rfl rfl Tryz.func24 (by kernel_rfl) rfl #[.int .i64 t337] rfl (by (try simp only [List.map_toArray, List.map_cons, List.map_nil]); first | done | rfl | (simp only [List.length_drop, List.length_take]; rfl)) ?_; (with_reducible refine (spec_PartitionsOf.calls k t337 t338 _ A5.out).mono ?_); rintro e w8 ⟨v339, rfl, ho0, hb⟩; refine ⟨_, rfl, ?_⟩; have n0_ := Aside0.mk (Kd.R_below (by (with_reducible repeat (first | apply Kd.R_alloc | apply Kd.R_drewN | apply Kd.R_drew)); exact HO335.out) hb); have n1_ := Aside0.mk (Kd.S_lower (Kd.S_new' ho0 (Kd.R_lt (by (with_reducible repeat (first | apply Kd.R_alloc | apply Kd.R_drewN | apply Kd.R_drew)); exact HO335.out))) (below_size (by repeat (first | (with_reducible first | exact HB.out | apply below_alloc | apply pw_below_drewN | apply below_drew1) | exact HB.out)))); have n2_ := Aside0.mk (below_step (by repeat (first | (with_reducible first | exact HB.out | apply below_alloc | apply pw_below_drewN | apply below_drew1) | exact HB.out)) hb); clear HO335; clear HB; have HO335 := n0_; have HO340 := n1_; have HB := n2_; clear n0_ n1_ n2_; (try clear hb); (try clear hb2); (try clear hk); (try clear hi); (try clear ho0)))
  go_loopg [3, 5] k (fun kq v3 v5 w' => ∃ (x3_1 : List Int) (x5_1 : Int), v5 = .int .i64 x5_1 ∧ Aside0 (spec_MonomialOfSchur.l0 kq l0 x3_1 t338 x5_1 = some r) ∧ Aside0 (kq ≤ k) ∧ Aside0 (Kd.R (Kd.int .i64) 3 w' w.heap.size (fun _ => True) v3 x3_1) ∧ Aside0 (Kd.S (Kd.slice 3 (Kd.int .i64)) 24 w' w.heap.size (fun k_ => some k_ ≠ (v3 : Value).ownBlock) v339 t338) ∧ Aside0 (Below w.heap.size w w'))
  case atStart => exact ⟨(y333), (0), (by first | rfl | (simp; done) | (simp [*]; done)), H', ⟨Nat.le_refl _⟩, ⟨by (with_reducible repeat (first | apply Kd.R_alloc | apply Kd.R_drewN | apply Kd.R_drew)); exact HO335.out⟩, ⟨by (with_reducible repeat (first | apply Kd.S_alloc | apply Kd.S_drewN | apply Kd.S_drew)); exact Kd.S_mono HO340.out (fun _ hk => hk.2)⟩, ⟨by repeat (first | (with_reducible first | exact HB.out | apply below_alloc | apply pw_below_drewN | apply below_drew1) | exact HB.out)⟩⟩
  case round =>
   clear H'
   try clear c2
   try clear p2
   try clear c3
   try clear c5
   try clear c7
   obtain ⟨x3_1, x5_1, rfl, HA, HK1, HO_3, HO_4, HB⟩ := hrel
   cases gk with
   | zero => exact absurd HA.out (by simp [spec_MonomialOfSchur.l0])
   | succ k1 =>
    have H := HA.out
    clear HA
    simp only [spec_MonomialOfSchur.l0] at H
    by_cases c9 : x5_1 < (t338.length : Int)
    ·
     rw [if_pos c9] at H
     have c9b0 : decide (x5_1 < (t338.length : Int)) = true := decide_eq_true c9
     clear c9
     obtain ⟨y341, hy341⟩ : ∃ y_ : List Int, y_ = (([] : List Int)) := ⟨_, rfl⟩
     replace H : (if 0 ≤ x5_1 then ((spec_l7Count.f k1 y341 l0 (rd_L3 t338 x5_1) 0).bind fun t345 => (if x3_1.length < 17592186044416 then (spec_MonomialOfSchur.l0 k1 l0 (x3_1 ++ [t345]) t338 (wrap64 (x5_1 + 1))) else (none))) else (none)) = some r := by first | (rw [hy341]; with_reducible exact H) | (have H2_ := (Option.bind_some _ _).symm.trans H; rw [hy341]; with_reducible exact H2_) | (have H2_ := (Option.bind_some _ _).symm.trans H; with_reducible exact H2_) | with_reducible exact H | (rw [hy341]; exact H) | exact H
     have Ny341 := Aside0.mk hy341
     clear hy341
     by_cases c10 : 0 ≤ x5_1
     ·
      rw [if_pos c10] at H
      have c10b0 : decide (0 ≤ x5_1) = true := decide_eq_true c10
      clear c10
      replace H := Option.bind_eq_some_iff.mp H
      obtain ⟨t345, A110, H⟩ := H
      replace H : (if x3_1.length < 17592186044416 then (spec_MonomialOfSchur.l0 k1 l0 (x3_1 ++ [t345]) t338 (wrap64 (x5_1 + 1))) else (none)) = some r := H
      have A11 := Aside0.mk A110
      clear A110
      by_cases c12 : x3_1.length < 17592186044416
      ·
       rw [if_pos c12] at H
       have LMc12 := Aside0.mk c12
       clear c12
       obtain ⟨y346, hy346⟩ : ∃ y_ : List Int, y_ = (x3_1 ++ [t345]) := ⟨_, rfl⟩
       replace H : (spec_MonomialOfSchur.l0 k1 l0 y346 t338 (wrap64 (x5_1 + 1))) = some r := by first | (rw [hy346]; with_reducible exact H) | (have H2_ := (Option.bind_some _ _).symm.trans H; rw [hy346]; with_reducible exact H2_) | (have H2_ := (Option.bind_some _ _).symm.trans H; with_reducible exact H2_) | with_reducible exact H | (rw [hy346]; exact H) | exact H
       have Ny346 := Aside0.mk hy346
       clear hy346
       have H' := Aside0.mk H
       clear H
       obtain ⟨Ao13, co13, eo13⟩ := Kd.S_slice HO_4.out
       subst eo13
       go_wp2_with (first | ((with_reducible refine gate_dst (N := 21) rfl ?_); refine Kd.R_lit (Kd.int .i64) _ 3 ?hg (N := 21) ?hd (xs := ([] : List Int)) (inner := []) (ok := fun _ => True) (okp := fun _ => True) ?hr ?hp (fun _ hk => hk) trivial (Below.refl _ _) (Nat.le_refl _) (by simp) ?_; (case hd => rfl); (case hg => rfl); (case hr => first | (go_simp; done) | (go_simp; rfl)); (case hp => exact (Reps.none _ _)); intro v342 w14 ho15 hb hg_ hnew_; clear hg_ hnew_; (first | rw [← Ny341.out] at ho15 | (simp only [Int.reduceToNat] at ho15; rw [← Ny341.out] at ho15)); have n0_ := Aside0.mk (Kd.R_elder' (by (with_reducible repeat (first | apply Kd.R_alloc | apply Kd.R_drewN | apply Kd.R_drew)); exact HO_3.out) (Kd.R_base ho15) hb); have n1_ := Aside0.mk (Kd.S_elder' (by (with_reducible repeat (first | apply Kd.S_alloc | apply Kd.S_drewN | apply Kd.S_drew)); exact HO_4.out) (Kd.R_base ho15) hb); have n2_ := Aside0.mk (Kd.R_lower (Kd.R_new' ho15 (Kd.R_lt (by (with_reducible repeat (first | apply Kd.R_alloc | apply Kd.R_drewN | apply Kd.R_drew)); exact HO_3.out))) (below_size (by repeat (first | (with_reducible first | exact HB.out | apply below_alloc | apply pw_below_drewN | apply below_drew1) | exact HB.out)))); have n3_ := Aside0.mk (below_step (by repeat (first | (with_reducible first | exact HB.out | apply below_alloc | apply pw_below_drewN | apply below_drew1) | exact HB.out)) hb); clear HO_3; clear HO_4; clear HB; have HO_3 := n0_; have HO_4 := n1_; have HO343 := n2_; have HB := n3_; clear n0_ n1_ n2_ n3_; clear hb ho15; have p344 : 0 ≤ (x5_1 : Int) := of_decide_eq_true (by first | (with_reducible assumption) | assumption); have q344 : x5_1 < (t338.length : Int) := of_decide_eq_true (by first | (with_reducible assumption) | assumption); obtain ⟨ad344, A344_0, c344_0, e344, hx344_0, hl344_0, hi344_0⟩ := at_L3 (Kd.S_reads' HO_4.out).2.2 x5_1 p344 q344; cases e344; obtain ⟨ce344, hce344, hMe344, hcc344⟩ := Kd.S_get HO_4.out [] x5_1 p344 (by first | exact q344 | exact of_decide_eq_true (by first | (with_reducible assumption) | assumption) | (have e_ := (Kd.S_reads' HO_4.out).1; omega)); obtain ⟨ve344_0, rfl, ge344_0⟩ := hMe344; have hv344_0 := hcc344 0 _ rfl; rw [Nat.add_zero, show ((Kd.slice 3 (Kd.int .i64))).sz = 1 from rfl, Nat.mul_one] at hv344_0; replace hv344_0 := Option.some.inj (hv344_0.symm.trans hx344_0); rw [hv344_0] at ge344_0; have HL344_0 := Aside0.mk (show Kd.R (Kd.int .i64) 3 _ _ _ _ (rd_L3 t338 x5_1) from ge344_0); clear hv344_0 ge344_0; clear hcc344 hce344; have HR344_0 := Aside0.mk hi344_0; have HC344_0 := Aside0.mk hl344_0; clear hi344_0 hl344_0; replace p344 := eq_true p344; replace q344 := eq_true q344; obtain ⟨Ao16, co16, eo16⟩ := Kd.R_slice HO343.out; subst eo16) | ((with_reducible refine gate_callee (f := 71) rfl ?_); refine goesL_ (some 27) rfl rfl Tryz.func71 (by kernel_rfl) rfl #[.slice Ao16 y341.length co16, .slice A0 l0.length c0, .slice A344_0 (rd_L3 t338 x5_1).length c344_0, .int .i64 0] rfl (by (try simp only [List.map_toArray, List.map_cons, List.map_nil]); first | done | rfl | (simp only [List.length_drop, List.length_take]; rfl)) ?_; (with_reducible refine (spec_l7Count.calls k1 _ _ y341 _ _ l0 _ _ (rd_L3 t338 x5_1) 0 t345 _ ?side1 ?side2 ?side3 ?side4 ?side5 ?side6 A11.out).mono ?_); (case side1 => repeat (first | exact (Kd.R_reads' HO343.out).2.2 | (with_reducible refine Kd.C_alloc ?_ _) | (with_reducible refine Kd.C_drewN ?_ _) | (with_reducible refine Kd.C_drew ?_))); (case side2 => exact (Kd.R_reads' HO343.out).2.1); (case side3 => repeat (first | exact (Kd.C_below HR0.out HB.out) | (with_reducible refine Kd.C_alloc ?_ _) | (with_reducible refine Kd.C_drewN ?_ _) | (with_reducible refine Kd.C_drew ?_))); (case side4 => exact HC0.out); (case side5 => repeat (first | exact (by repeat (first | (with_reducible exact HR344_0.out) | (with_reducible refine Kd.C_alloc ?_ _) | (with_reducible refine Kd.C_drewN ?_ _) | (with_reducible refine Kd.C_drew ?_) | exact HR344_0.out)) | (with_reducible refine Kd.C_alloc ?_ _) | (with_reducible refine Kd.C_drewN ?_ _) | (with_reducible refine Kd.C_drew ?_))); (case side6 => exact HC344_0.out); rintro e w17 ⟨rfl, hb⟩; refine ⟨_, rfl, ?_⟩; have n0_ := Aside0.mk (Kd.R_below (by (with_reducible repeat (first | apply Kd.R_alloc | apply Kd.R_drewN | apply Kd.R_drew)); exact HO_3.out) hb); have n1_ := Aside0.mk (Kd.S_below (by (with_reducible repeat (first | apply Kd.S_alloc | apply Kd.S_drewN | apply Kd.S_drew)); exact HO_4.out) hb); have n2_ := Aside0.mk (Kd.R_below (by (with_reducible repeat (first | apply Kd.R_alloc | apply Kd.R_drewN | apply Kd.R_drew)); exact HO343.out) hb); have n3_ := Aside0.mk (Kd.R_below (by (with_reducible repeat (first | apply Kd.R_alloc | apply Kd.R_drewN | apply Kd.R_drew)); exact HL344_0.out) hb); have n4_ := Aside0.mk (Kd.C_below (by repeat (first | (with_reducible exact HR344_0.out) | (with_reducible refine Kd.C_alloc ?_ _) | (with_reducible refine Kd.C_drewN ?_ _) | (with_reducible refine Kd.C_drew ?_) | exact HR344_0.out)) hb); have n5_ := Aside0.mk (below_step (by repeat (first | (with_reducible first | exact HB.out | apply below_alloc | apply pw_below_drewN | apply below_drew1) | exact HB.out)) hb); clear HO_3; clear HO_4; clear HO343; clear HL344_0; clear HR344_0; clear HB; have HO_3 := n0_; have HO_4 := n1_; have HO343 := n2_; have HL344_0 := n3_; have HR344_0 := n4_; have HB := n5_; clear n0_ n1_ n2_ n3_ n4_ n5_; (try clear hb); (try clear hb2); (try clear hk); (try clear hi)) | ((with_reducible refine gate_builtin (b := .append) (xs := #[.tmp 20, .tmp 28]) rfl ?_); at_builtin; refine Kd.R_append (Kd.int .i64) (w0 := w) w.heap.size rfl (.tmp 20) (.tmp 28) 24 3 (.int .i64 0) 8 rfl Tryz.underlying24 info3 rfl (by decide) (by omega) u3 x3_1 t345 [.int .i64 t345] (fun k_ => some k_ ≠ (.slice Ao16 y341.length co16 : Value).ownBlock) (fun _ => False) rfl rfl ?aP (fun _ hk => hk.elim) ?aF ?aO ?aB ?aS ?aL ?_; (case aP => exact rfl); (case aB => exact (by repeat (first | (with_reducible first | exact HB.out | apply below_alloc | apply pw_below_drewN | apply below_drew1) | exact HB.out))); (case aF => exact (fun k_ hk => Kd.fresh' (Kd.R_lt (by (with_reducible repeat (first | apply Kd.R_alloc | apply Kd.R_drewN | apply Kd.R_drew)); exact HO343.out)) k_ hk)); (case aO => exact (by (with_reducible repeat (first | apply Kd.R_alloc | apply Kd.R_drewN | apply Kd.R_drew)); exact Kd.R_mono HO_3.out (fun _ hk => hk.2))); (case aS => exact (below_size (by repeat (first | (with_reducible first | exact HB.out | apply below_alloc | apply pw_below_drewN | apply below_drew1) | exact HB.out)))); (case aL => have := LMc12.out; omega); intro v347 w18 ho hb hg hat; rw [← Ny346.out] at ho; have n0_ := Aside0.mk (Kd.S_after (ok := (fun k_ => some k_ ≠ (.slice Ao16 y341.length co16 : Value).ownBlock)) (by (with_reducible repeat (first | apply Kd.S_alloc | apply Kd.S_drewN | apply Kd.S_drew)); exact Kd.S_mono HO_4.out (fun _ hk => ⟨hk.2, hk.1⟩)) hg hat); have n1_ := Aside0.mk (Kd.R_after (ok := (fun _ => True)) (by (with_reducible repeat (first | apply Kd.R_alloc | apply Kd.R_drewN | apply Kd.R_drew)); exact HO343.out) hg hat); have n2_ := Aside0.mk (Kd.R_after (ok := (fun k_ => some k_ ≠ (.slice (some ad344) t338.length co13 : Value).ownBlock ∧ some k_ ≠ (.slice Ao16 y341.length co16 : Value).ownBlock)) (by (with_reducible repeat (first | apply Kd.R_alloc | apply Kd.R_drewN | apply Kd.R_drew)); exact Kd.R_mono HL344_0.out (fun _ hk => ⟨⟨hk.2, hk.1.2⟩, hk.1.1⟩)) hg hat); have n3_ := Aside0.mk (hb); have n4_ := Aside0.mk (ho); clear HO_4; clear HO343; clear HL344_0; clear HB; clear HO_3; have HO_4 := n0_; have HO343 := n1_; have HL344_0 := n2_; have HB := n3_; have HO348 := n4_; clear n0_ n1_ n2_ n3_ n4_; clear ho hb hg hat))
       go_roundg k1
       case measure => have := HK1.out; omega
       case rel => exact ⟨(y346), (wrap64 (x5_1 + 1)), (by first | rfl | (simp; done) | (simp [*]; done)), H', ⟨by have := HK1.out; omega⟩, ⟨by (with_reducible repeat (first | apply Kd.R_alloc | apply Kd.R_drewN | apply Kd.R_drew)); exact Kd.R_mono HO348.out (fun _ hk => trivial)⟩, ⟨by (with_reducible repeat (first | apply Kd.S_alloc | apply Kd.S_drewN | apply Kd.S_drew)); exact Kd.S_mono HO_4.out (fun _ hk => hk.2)⟩, ⟨by repeat (first | (with_reducible first | exact HB.out | apply below_alloc | apply pw_below_drewN | apply below_drew1) | exact HB.out)⟩⟩
      ·
       rw [if_neg c12] at H
       exact absurd H (by simp)
     ·
      rw [if_neg c10] at H
      exact absurd H (by simp)
    ·
     rw [if_neg c9] at H
     have c9b0 : decide (x5_1 < (t338.length : Int)) = false := decide_eq_false c9
     clear c9
     obtain rfl := Option.some.inj H
     obtain ⟨Ao19, co19, eo19⟩ := Kd.S_slice HO_4.out
     subst eo19
     go_wp2
     go_ret
     exact ⟨_, by first | rfl | (simp [errW_none, errW_some] <;> rfl) | (simp [*, errW_none, errW_some] <;> rfl), by (with_reducible repeat (first | apply Kd.R_alloc | apply Kd.R_drewN | apply Kd.R_drew)); exact HO_3.out, by repeat (first | (with_reducible first | exact HB.out | apply below_alloc | apply pw_below_drewN | apply below_drew1) | exact HB.out)⟩
 ·
  replace c3 := Bool.eq_false_iff.mpr c3
  subst c3
  have H1 : (some y333) = some r := by rw [if_neg (show ¬ (false = true) by decide)] at H; exact H
  clear H
  have H := H1
  clear H1
  obtain rfl := Option.some.inj H
  go_enter Tryz.func28, Tryz.ntmps28
  go_wp2_with (first | ((with_reducible refine gate_dst (N := 6) rfl ?_); refine Kd.R_lit (Kd.int .i64) _ 3 ?hg (N := 6) ?hd (xs := ([] : List Int)) (inner := []) (ok := fun _ => True) (okp := fun _ => True) ?hr ?hp (fun _ hk => hk) trivial (Below.refl _ _) (Nat.le_refl _) (by simp) ?_; (case hd => rfl); (case hg => rfl); (case hr => first | (go_simp; done) | (go_simp; rfl)); (case hp => exact (Reps.none _ _)); intro v334 w20 ho21 hb hg_ hnew_; clear hg_ hnew_; (first | rw [← Ny333.out] at ho21 | (simp only [Int.reduceToNat] at ho21; rw [← Ny333.out] at ho21)); have n0_ := Aside0.mk (Kd.R_lower ho21 (below_size (by repeat (first | (with_reducible first | exact HB.out | apply below_alloc | apply pw_below_drewN | apply below_drew1) | exact HB.out)))); have n1_ := Aside0.mk (below_step (by repeat (first | (with_reducible first | exact HB.out | apply below_alloc | apply pw_below_drewN | apply below_drew1) | exact HB.out)) hb); clear HB; have HO335 := n0_; have HB := n1_; clear n0_ n1_; clear hb ho21) | ((with_reducible refine gate_callee (f := 70) rfl ?_); refine goesL_ (some 8) rfl rfl Tryz.func70 (by kernel_rfl) rfl #[.slice A0 l0.length c0] rfl (by (try simp only [List.map_toArray, List.map_cons, List.map_nil]); first | done | rfl | (simp only [List.length_drop, List.length_take]; rfl)) ?_; (with_reducible refine (spec_l21Fine.calls k _ _ l0 false _ ?side1 ?side2 A2.out).mono ?_); (case side1 => repeat (first | exact (Kd.C_below HR0.out HB.out) | (with_reducible refine Kd.C_alloc ?_ _) | (with_reducible refine Kd.C_drewN ?_ _) | (with_reducible refine Kd.C_drew ?_))); (case side2 => exact HC0.out); rintro e w' ⟨rfl, ⟨nd, rfl⟩⟩; refine ⟨_, rfl, ?_⟩))
  go_ret
  exact ⟨_, by first | rfl | (simp [errW_none, errW_some] <;> rfl) | (simp [*, errW_none, errW_some] <;> rfl), by (with_reducible repeat (first | apply Kd.R_alloc | apply Kd.R_drewN | apply Kd.R_drew)); exact HO335.out, by repeat (first | (with_reducible first | exact HB.out | apply below_alloc | apply pw_below_drewN | apply below_drew1) | exact HB.out)⟩
def laws_toIntS.l0 : Nat → List Int → List Int → Int → Option (List Int)
  | 0, _, _, _ => none
  | k + 1, x0, x3, x4 => if x4 < (x0.length : Int) then (if 0 ≤ x4 then (if x4 < (x3.length : Int) then (laws_toIntS.l0 k x0 (x3.set (x4 : Int).toNat (rd x0 x4)) (wrap64 (x4 + 1))) else (none)) else (none)) else (some x3)
def laws_toIntS.f (k : Nat) (l0 : List Int) : Option (List Int) := if 0 ≤ (l0.length : Int) then (if ((l0.length : Int) : Int).toNat ≤ 35184372088832 then (laws_toIntS.l0 k l0 (List.replicate ((l0.length : Int) : Int).toNat 0) 0) else (none)) else (none)
set_option maxHeartbeats 8000000 in
set_option maxRecDepth 100000 in
theorem laws_toIntS.calls (k : Nat) (A0 : Option Addr) (c0 : Nat) (l0 : List Int) (r : List Int) (w : World) (hr0 : Kd.C (Kd.int .i64) w A0 l0.length l0) (hc0 : l0.length ≤ c0) (h : laws_toIntS.f k l0 = some r) :
  Calls Tryz.prog 29 #[.slice A0 l0.length c0] w fun e w' => ∃ v0_ : Value, e = .returned (v0_) ∧ Kd.R (Kd.int .i64) 3 w' w.heap.size (fun _ => True) v0_ r ∧ Below w.heap.size w w' := by
 have HR0 := Aside0.mk hr0
 have HC0 := Aside0.mk hc0
 clear hr0 hc0
 have HB := Aside0.mk (Below.refl w.heap.size w)
 have H : (if 0 ≤ (l0.length : Int) then (if ((l0.length : Int) : Int).toNat ≤ 35184372088832 then (laws_toIntS.l0 k l0 (List.replicate ((l0.length : Int) : Int).toNat 0) 0) else (none)) else (none)) = some r := h
 clear h
 by_cases c2 : 0 ≤ (l0.length : Int)
 ·
  rw [if_pos c2] at H
  have c2b0 := eq_true c2
  have c2b1 : decide (0 ≤ (l0.length : Int)) = true := decide_eq_true c2
  clear c2
  by_cases c3 : ((l0.length : Int) : Int).toNat ≤ 35184372088832
  ·
   rw [if_pos c3] at H
   have c3b0 := eq_true c3
   have c3b1 : decide (((l0.length : Int) : Int).toNat ≤ 35184372088832) = true := decide_eq_true c3
   clear c3
   obtain ⟨y349, hy349⟩ : ∃ y_ : List Int, y_ = (List.replicate ((l0.length : Int) : Int).toNat 0) := ⟨_, rfl⟩
   replace H : (laws_toIntS.l0 k l0 y349 0) = some r := by first | (rw [hy349]; with_reducible exact H) | (have H2_ := (Option.bind_some _ _).symm.trans H; rw [hy349]; with_reducible exact H2_) | (have H2_ := (Option.bind_some _ _).symm.trans H; with_reducible exact H2_) | with_reducible exact H | (rw [hy349]; exact H) | exact H
   have Ny349 := Aside0.mk hy349
   clear hy349
   have H' := Aside0.mk H
   clear H
   go_enter Tryz.func29, Tryz.ntmps29
   go_wp2_with (first | ((with_reducible refine gate_dst (N := 7) rfl ?_); refine Kd.R_make (Kd.int .i64) _ 3 rfl (N := 7) rfl 24 _ _ rfl (l0.length : Int) rfl rfl Tryz.underlying24 (.int .i64 0) 8 info3 rfl (by decide) (by omega) 0 (ok := fun _ => True) (okp := fun _ => True) rfl (fun _ hk => hk) trivial (of_decide_eq_true (by first | (with_reducible assumption) | assumption)) (Nat.le_trans (Nat.mul_le_mul_right _ (of_decide_eq_true (by first | (with_reducible assumption) | assumption) : (l0.length : Int).toNat ≤ 35184372088832)) (by omega)) (Below.refl _ _) (Nat.le_refl _) ?_; intro v350 w4 ho5 hb hg_ hnew_; clear hg_ hnew_; (first | rw [← Ny349.out] at ho5 | (simp only [Int.reduceToNat] at ho5; rw [← Ny349.out] at ho5)); have n0_ := Aside0.mk (Kd.R_lower ho5 (below_size (by repeat (first | (with_reducible first | exact HB.out | apply below_alloc | apply pw_below_drewN | apply below_drew1) | exact HB.out)))); have n1_ := Aside0.mk (below_step (by repeat (first | (with_reducible first | exact HB.out | apply below_alloc | apply pw_below_drewN | apply below_drew1) | exact HB.out)) hb); clear HB; have HO351 := n0_; have HB := n1_; clear n0_ n1_; clear hb ho5))
   go_loopg [4] k (fun kq v4 w' => ∃ (x3_1 : List Int) (x4_1 : Int), v4 = .int .i64 x4_1 ∧ Aside0 (laws_toIntS.l0 kq l0 x3_1 x4_1 = some r) ∧ Aside0 (kq ≤ k) ∧ Aside0 (Kd.R (Kd.int .i64) 3 w' w.heap.size (fun _ => True) v350 x3_1) ∧ Aside0 (Below w.heap.size w w'))
   case atStart => exact ⟨(y349), (0), (by first | rfl | (simp; done) | (simp [*]; done)), H', ⟨Nat.le_refl _⟩, ⟨by (with_reducible repeat (first | apply Kd.R_alloc | apply Kd.R_drewN | apply Kd.R_drew)); exact HO351.out⟩, ⟨by repeat (first | (with_reducible first | exact HB.out | apply below_alloc | apply pw_below_drewN | apply below_drew1) | exact HB.out)⟩⟩
   case round =>
    clear H'
    try clear c2
    try clear c2b0
    try clear c2b1
    try clear p2
    try clear c3
    try clear c3b0
    try clear c3b1
    obtain ⟨x3_1, x4_1, rfl, HA, HK1, HO_3, HB⟩ := hrel
    cases gk with
    | zero => exact absurd HA.out (by simp [laws_toIntS.l0])
    | succ k1 =>
     have H := HA.out
     clear HA
     simp only [laws_toIntS.l0] at H
     by_cases c6 : x4_1 < (l0.length : Int)
     ·
      rw [if_pos c6] at H
      have c6b0 : decide (x4_1 < (l0.length : Int)) = true := decide_eq_true c6
      clear c6
      by_cases c7 : 0 ≤ x4_1
      ·
       rw [if_pos c7] at H
       have c7b0 : decide (0 ≤ x4_1) = true := decide_eq_true c7
       clear c7
       by_cases c8 : x4_1 < (x3_1.length : Int)
       ·
        rw [if_pos c8] at H
        have c8b0 : decide (x4_1 < (x3_1.length : Int)) = true := decide_eq_true c8
        clear c8
        obtain ⟨y353, hy353⟩ : ∃ y_ : List Int, y_ = (x3_1.set (x4_1 : Int).toNat (rd l0 x4_1)) := ⟨_, rfl⟩
        replace H : (laws_toIntS.l0 k1 l0 y353 (wrap64 (x4_1 + 1))) = some r := by first | (rw [hy353]; with_reducible exact H) | (have H2_ := (Option.bind_some _ _).symm.trans H; rw [hy353]; with_reducible exact H2_) | (have H2_ := (Option.bind_some _ _).symm.trans H; with_reducible exact H2_) | with_reducible exact H | (rw [hy353]; exact H) | exact H
        have Ny353 := Aside0.mk hy353
        clear hy353
        have H' := Aside0.mk H
        clear H
        have p352 : 0 ≤ (x4_1 : Int) := of_decide_eq_true (by first | (with_reducible assumption) | assumption)
        have q352 : x4_1 < (l0.length : Int) := of_decide_eq_true (by first | (with_reducible assumption) | assumption)
        obtain ⟨ad352, e352, hx352_0⟩ := Kd.at_int HR0.out x4_1 p352 q352
        cases e352
        replace hx352_0 := (HB.out.cell (World.block_lt_of_cell? w _ hx352_0)).trans hx352_0
        replace p352 := eq_true p352
        replace q352 := eq_true q352
        have p9 : 0 ≤ (x4_1 : Int) := of_decide_eq_true (by first | (with_reducible assumption) | assumption)
        have q9 : (x4_1 : Int) < ((x3_1.length : Int) : Int) := of_decide_eq_true (by first | (with_reducible assumption) | assumption)
        obtain ⟨go9, co9, eo9, gb9, gl9, cl9, HG9⟩ := Kd.R_form HO_3.out (by omega)
        (first | cases eo9 | (injection eo9 with ea_ en_ ec_; (first | subst ea_ | (injection ea_ with ea_; subst ea_)); subst ec_; clear en_))
        have GB9 := Aside0.mk gb9
        have GG9 := Aside0.mk HG9
        clear gb9 gl9 HG9
        obtain ⟨hx9_0, hf9_0⟩ := Kd.R_celln 0 HO_3.out (x4_1 : Int) p9 q9
        replace p9 := eq_true p9
        replace q9 := eq_true q9
        have HP10 := Kd.R_putg HO_3.out (x4_1 : Int) (rd l0 x4_1)
        go_wp2_with (first | ((with_reducible refine gate_store (t := 3) (p := 20) rfl ?_); refine store_event (t := 3) (p := 20) (v := ?vo_w11) (w1 := (wr.setCell ⟨go9, (x4_1 : Int).toNat, none⟩ (.int .i64 (rd l0 x4_1)))) ?hg ?ho ?hn ?hr ?_; (case ho => rfl); (case hg => rfl); (case hn => rfl); (case hr => first | (go_simp; done) | (go_simp; rfl)); intro w11 hw; have hg : wr.grownBy w11 (some go9) := (by rw [hw]; exact HP10.2); have hp_ : Kd.R (Kd.int .i64) 3 w11 w.heap.size (fun _ => True) (.slice (some ⟨go9, 0, none⟩) x3_1.length co9) y353 := (by rw [hw, Ny353.out]; exact HP10.1); clear HP10; have n0_ := Aside0.mk (hp_); have n1_ := Aside0.mk ((by rw [hw]; exact below_set (HB.out) GB9.out : Below w.heap.size w w11)); clear HO_3; clear HB; have HO_3 := n0_; have HB := n1_; clear n0_ n1_; clear hg hw hp_))
        go_roundg k1
        case measure => have := HK1.out; omega
        case rel => exact ⟨(y353), (wrap64 (x4_1 + 1)), (by first | rfl | (simp; done) | (simp [*]; done)), H', ⟨by have := HK1.out; omega⟩, ⟨by (with_reducible repeat (first | apply Kd.R_alloc | apply Kd.R_drewN | apply Kd.R_drew)); exact HO_3.out⟩, ⟨by repeat (first | (with_reducible first | exact HB.out | apply below_alloc | apply pw_below_drewN | apply below_drew1) | exact HB.out)⟩⟩
       ·
        rw [if_neg c8] at H
        exact absurd H (by simp)
      ·
       rw [if_neg c7] at H
       exact absurd H (by simp)
     ·
      rw [if_neg c6] at H
      have c6b0 : decide (x4_1 < (l0.length : Int)) = false := decide_eq_false c6
      clear c6
      obtain rfl := Option.some.inj H
      go_wp2
      go_ret
      exact ⟨_, by first | rfl | (simp [errW_none, errW_some] <;> rfl) | (simp [*, errW_none, errW_some] <;> rfl), by (with_reducible repeat (first | apply Kd.R_alloc | apply Kd.R_drewN | apply Kd.R_drew)); exact HO_3.out, by repeat (first | (with_reducible first | exact HB.out | apply below_alloc | apply pw_below_drewN | apply below_drew1) | exact HB.out)⟩
  ·
   rw [if_neg c3] at H
   exact absurd H (by simp)
 ·
  rw [if_neg c2] at H
  exact absurd H (by simp)
def impl_vectorOf.l0 (num : List Int → Option Int) : Nat → List Int → List (List Int) → Int → Int → Option (List Int)
  | 0, _, _, _, _ => none
  | k + 1, x5, x15, x16, x17 => if x17 < x16 then (if 0 ≤ x17 then (if x17 < (x15.length : Int) then ((num (rd_L3 x15 x17)).bind fun t143 => (if x5.length < 17592186044416 then (impl_vectorOf.l0 num k (x5 ++ [t143]) x15 x16 (wrap64 (x17 + 1))) else (none))) else (none)) else (none)) else (some x5)
def impl_vectorOf.f (k : Nat) (num : List Int → Option Int) (l0 : List Int) : Option (List Int) := (impl_SizeOf.f k l0).bind fun t133 => ((impl_within.f t133 0 6).bind fun t134 => (if t134 = true then ((impl_SizeOf.f k l0).bind fun t138 => ((impl_PartitionsOf.f k t138).bind fun t139 => (impl_vectorOf.l0 num k (([] : List Int)) t139 (t139.length : Int) 0))) else (some ([] : List Int))))
set_option maxHeartbeats 8000000 in
set_option maxRecDepth 100000 in
theorem impl_vectorOf.calls (k : Nat) (num : List Int → Option Int) (g : Nat) (lb : Array Value) (eg : ∀ args w, (callFunc g args).run Tryz.prog w = .ok (.enter g args) w) (A0 : Option Addr) (c0 : Nat) (l0 : List Int) (r : List Int) (w : World)
  (hnum : ∀ (W : World) (A : Option Addr) (c : Nat) (q : List Int) (r : Int), Below w.heap.size w W → Kd.C (Kd.int .i64) W A q.length q → q.length ≤ c → num q = some r → Calls Tryz.prog g (#[.slice A q.length c] ++ lb) W fun e w' => e = .returned (.int .i64 r) ∧ Below W.heap.size W w')
  (hr0 : Kd.C (Kd.int .i64) w A0 l0.length l0) (hc0 : l0.length ≤ c0) (h : impl_vectorOf.f k num l0 = some r) :
  Calls Tryz.prog 72 #[.slice A0 l0.length c0, .func (.func g) #[] lb] w fun e w' => ∃ v0_ : Value, e = .returned (v0_) ∧ Kd.R (Kd.int .i64) 3 w' w.heap.size (fun _ => True) v0_ r ∧ Below w.heap.size w w' := by
 have HN := Aside0.mk hnum
 clear hnum
 have HR0 := Aside0.mk hr0
 have HC0 := Aside0.mk hc0
 clear hr0 hc0
 have HB := Aside0.mk (Below.refl w.heap.size w)
 have H : ((impl_SizeOf.f k l0).bind fun t133 => ((impl_within.f t133 0 6).bind fun t134 => (if t134 = true then ((impl_SizeOf.f k l0).bind fun t138 => ((impl_PartitionsOf.f k t138).bind fun t139 => (impl_vectorOf.l0 num k (([] : List Int)) t139 (t139.length : Int) 0))) else (some ([] : List Int))))) = some r := h
 clear h
 replace H := Option.bind_eq_some_iff.mp H
 obtain ⟨t133, A30, H⟩ := H
 replace H : ((impl_within.f t133 0 6).bind fun t134 => (if t134 = true then ((impl_SizeOf.f k l0).bind fun t138 => ((impl_PartitionsOf.f k t138).bind fun t139 => (impl_vectorOf.l0 num k (([] : List Int)) t139 (t139.length : Int) 0))) else (some ([] : List Int)))) = some r := H
 have A3 := Aside0.mk A30
 clear A30
 replace H := Option.bind_eq_some_iff.mp H
 obtain ⟨t134, A40, H⟩ := H
 replace H : (if t134 = true then ((impl_SizeOf.f k l0).bind fun t138 => ((impl_PartitionsOf.f k t138).bind fun t139 => (impl_vectorOf.l0 num k (([] : List Int)) t139 (t139.length : Int) 0))) else (some ([] : List Int))) = some r := H
 have A4 := Aside0.mk A40
 clear A40
 by_cases c5 : t134 = true
 ·
  subst c5
  have H1 : ((impl_SizeOf.f k l0).bind fun t138 => ((impl_PartitionsOf.f k t138).bind fun t139 => (impl_vectorOf.l0 num k (([] : List Int)) t139 (t139.length : Int) 0))) = some r := by rw [if_pos rfl] at H; exact H
  clear H
  have H := H1
  clear H1
  obtain ⟨y135, hy135⟩ : ∃ y_ : List Int, y_ = (([] : List Int)) := ⟨_, rfl⟩
  replace H : ((impl_SizeOf.f k l0).bind fun t138 => ((impl_PartitionsOf.f k t138).bind fun t139 => (impl_vectorOf.l0 num k y135 t139 (t139.length : Int) 0))) = some r := by first | (rw [hy135]; with_reducible exact H) | (have H2_ := (Option.bind_some _ _).symm.trans H; rw [hy135]; with_reducible exact H2_) | (have H2_ := (Option.bind_some _ _).symm.trans H; with_reducible exact H2_) | with_reducible exact H | (rw [hy135]; exact H) | exact H
  have Ny135 := Aside0.mk hy135
  clear hy135
  replace H := Option.bind_eq_some_iff.mp H
  obtain ⟨t138, A60, H⟩ := H
  replace H : ((impl_PartitionsOf.f k t138).bind fun t139 => (impl_vectorOf.l0 num k y135 t139 (t139.length : Int) 0)) = some r := H
  have A6 := Aside0.mk A60
  clear A60
  replace H := Option.bind_eq_some_iff.mp H
  obtain ⟨t139, A70, H⟩ := H
  replace H : (impl_vectorOf.l0 num k y135 t139 (t139.length : Int) 0) = some r := H
  have A7 := Aside0.mk A70
  clear A70
  have H' := Aside0.mk H
  clear H
  go_enter Tryz.func72, Tryz.ntmps72
  go_wp2_with (first | ((with_reducible refine gate_callee (f := 122) rfl ?_); refine goesL_ (some 9) rfl rfl Tryz.func122 (by kernel_rfl) rfl #[.slice A0 l0.length c0] rfl (by (try simp only [List.map_toArray, List.map_cons, List.map_nil]); first | done | rfl | (simp only [List.length_drop, List.length_take]; rfl)) ?_; (with_reducible refine (impl_SizeOf.calls k _ _ l0 t133 _ ?side1 ?side2 A3.out).mono ?_); (case side1 => repeat (first | exact HR0.out | (with_reducible refine Kd.C_alloc ?_ _) | (with_reducible refine Kd.C_drewN ?_ _) | (with_reducible refine Kd.C_drew ?_))); (case side2 => exact HC0.out); rintro e w' ⟨rfl, ⟨nd, rfl⟩⟩; refine ⟨_, rfl, ?_⟩) | ((with_reducible refine gate_callee (f := 61) rfl ?_); refine goesL_ (some 10) rfl rfl Tryz.func61 (by kernel_rfl) rfl #[.int .i64 t133, .int .i64 0, .int .i64 6] rfl (by (try simp only [List.map_toArray, List.map_cons, List.map_nil]); first | done | rfl | (simp only [List.length_drop, List.length_take]; rfl)) ?_; (with_reducible refine (impl_within.calls t133 0 6 true _ A4.out).mono ?_); rintro e w' ⟨rfl, ⟨nd, rfl⟩⟩; refine ⟨_, rfl, ?_⟩) | ((with_reducible refine gate_dst (N := 12) rfl ?_); refine Kd.R_lit (Kd.int .i64) _ 3 ?hg (N := 12) ?hd (xs := ([] : List Int)) (inner := []) (ok := fun _ => True) (okp := fun _ => True) ?hr ?hp (fun _ hk => hk) trivial (Below.refl _ _) (Nat.le_refl _) (by simp) ?_; (case hd => rfl); (case hg => rfl); (case hr => first | (go_simp; done) | (go_simp; rfl)); (case hp => exact (Reps.none _ _)); intro v136 w8 ho9 hb hg_ hnew_; clear hg_ hnew_; (first | rw [← Ny135.out] at ho9 | (simp only [Int.reduceToNat] at ho9; rw [← Ny135.out] at ho9)); have n0_ := Aside0.mk (Kd.R_lower ho9 (below_size (by repeat (first | (with_reducible first | exact HB.out | apply below_alloc | apply pw_below_drewN | apply below_drew1) | exact HB.out)))); have n1_ := Aside0.mk (below_step (by repeat (first | (with_reducible first | exact HB.out | apply below_alloc | apply pw_below_drewN | apply below_drew1) | exact HB.out)) hb); clear HB; have HO137 := n0_; have HB := n1_; clear n0_ n1_; clear hb ho9) | ((with_reducible refine gate_callee (f := 122) rfl ?_); refine goesL_ (some 14) rfl rfl Tryz.func122 (by kernel_rfl) rfl #[.slice A0 l0.length c0] rfl (by (try simp only [List.map_toArray, List.map_cons, List.map_nil]); first | done | rfl | (simp only [List.length_drop, List.length_take]; rfl)) ?_; (with_reducible refine (impl_SizeOf.calls k _ _ l0 t138 _ ?side1 ?side2 A6.out).mono ?_); (case side1 => repeat (first | exact (Kd.C_below HR0.out HB.out) | (with_reducible refine Kd.C_alloc ?_ _) | (with_reducible refine Kd.C_drewN ?_ _) | (with_reducible refine Kd.C_drew ?_))); (case side2 => exact HC0.out); rintro e w' ⟨rfl, ⟨nd, rfl⟩⟩; refine ⟨_, rfl, ?_⟩) | ((with_reducible refine gate_callee (f := 107) rfl ?_); refine goesL_ (some 15) rfl rfl Tryz.func107 (by kernel_rfl) rfl #[.int .i64 t138] rfl (by (try simp only [List.map_toArray, List.map_cons, List.map_nil]); first | done | rfl | (simp only [List.length_drop, List.length_take]; rfl)) ?_; (with_reducible refine (impl_PartitionsOf.calls k t138 t139 _ A7.out).mono ?_); rintro e w10 ⟨v140, rfl, ho0, hb⟩; refine ⟨_, rfl, ?_⟩; have n0_ := Aside0.mk (Kd.R_below (by (with_reducible repeat (first | apply Kd.R_alloc | apply Kd.R_drewN | apply Kd.R_drew)); exact HO137.out) hb); have n1_ := Aside0.mk (Kd.N_lower (Kd.N_mono (ok' := fun k_ => some k_ ≠ (v136 : Value).ownBlock) ho0 (fun k_ hk_ => (Kd.fresh' (Kd.R_lt (by (with_reducible repeat (first | apply Kd.R_alloc | apply Kd.R_drewN | apply Kd.R_drew)); exact HO137.out)) k_ hk_))) (below_size (by repeat (first | (with_reducible first | exact HB.out | apply below_alloc | apply pw_below_drewN | apply below_drew1) | exact HB.out)))); have n2_ := Aside0.mk (below_step (by repeat (first | (with_reducible first | exact HB.out | apply below_alloc | apply pw_below_drewN | apply below_drew1) | exact HB.out)) hb); clear HO137; clear HB; have HO137 := n0_; have HO141 := n1_; have HB := n2_; clear n0_ n1_ n2_; (try clear hb); (try clear hb2); (try clear hk); (try clear hi); (try clear ho0); obtain ⟨Ao11, co11, eo11⟩ := Kd.N_slice HO141.out; subst eo11))
  go_loopg [5, 17] k (fun kq v5 v17 w' => ∃ (x5_1 : List Int) (x17_1 : Int), v17 = .int .i64 x17_1 ∧ Aside0 (impl_vectorOf.l0 num kq x5_1 t139 (t139.length : Int) x17_1 = some r) ∧ Aside0 (kq ≤ k) ∧ Aside0 (Kd.R (Kd.int .i64) 3 w' w.heap.size (fun _ => True) v5 x5_1) ∧ Aside0 (Kd.N (Kd.slice 3 (Kd.int .i64)) 24 w' w.heap.size (fun k_ => some k_ ≠ (v5 : Value).ownBlock) (.slice Ao11 t139.length co11) t139) ∧ Aside0 (Below w.heap.size w w'))
  case atStart => exact ⟨(y135), (0), (by first | rfl | (simp; done) | (simp [*]; done)), H', ⟨Nat.le_refl _⟩, ⟨by (with_reducible repeat (first | apply Kd.R_alloc | apply Kd.R_drewN | apply Kd.R_drew)); exact HO137.out⟩, ⟨by (with_reducible repeat (first | apply Kd.N_alloc | apply Kd.N_drewN | apply Kd.N_drew)); exact HO141.out⟩, ⟨by repeat (first | (with_reducible first | exact HB.out | apply below_alloc | apply pw_below_drewN | apply below_drew1) | exact HB.out)⟩⟩
  case round =>
   clear H'
   try clear c1
   try clear p2
   try clear c5
   try clear c6
   try clear c7
   try clear c10
   obtain ⟨x5_1, x17_1, rfl, HA, HK1, HO_5, HO_15, HB⟩ := hrel
   cases gk with
   | zero => exact absurd HA.out (by simp [impl_vectorOf.l0])
   | succ k1 =>
    have H := HA.out
    clear HA
    simp only [impl_vectorOf.l0] at H
    by_cases c12 : x17_1 < (t139.length : Int)
    ·
     rw [if_pos c12] at H
     have c12b0 : decide (x17_1 < (t139.length : Int)) = true := decide_eq_true c12
     clear c12
     by_cases c13 : 0 ≤ x17_1
     ·
      rw [if_pos c13] at H
      have c13b0 : decide (0 ≤ x17_1) = true := decide_eq_true c13
      clear c13
      by_cases c14 : x17_1 < (t139.length : Int)
      ·
       rw [if_pos c14] at H
       have c14b0 : decide (x17_1 < (t139.length : Int)) = true := decide_eq_true c14
       clear c14
       replace H := Option.bind_eq_some_iff.mp H
       obtain ⟨t143, A150, H⟩ := H
       replace H : (if x5_1.length < 17592186044416 then (impl_vectorOf.l0 num k1 (x5_1 ++ [t143]) t139 (t139.length : Int) (wrap64 (x17_1 + 1))) else (none)) = some r := H
       have A15 := Aside0.mk A150
       clear A150
       by_cases c16 : x5_1.length < 17592186044416
       ·
        rw [if_pos c16] at H
        have LMc16 := Aside0.mk c16
        clear c16
        obtain ⟨y144, hy144⟩ : ∃ y_ : List Int, y_ = (x5_1 ++ [t143]) := ⟨_, rfl⟩
        replace H : (impl_vectorOf.l0 num k1 y144 t139 (t139.length : Int) (wrap64 (x17_1 + 1))) = some r := by first | (rw [hy144]; with_reducible exact H) | (have H2_ := (Option.bind_some _ _).symm.trans H; rw [hy144]; with_reducible exact H2_) | (have H2_ := (Option.bind_some _ _).symm.trans H; with_reducible exact H2_) | with_reducible exact H | (rw [hy144]; exact H) | exact H
        have Ny144 := Aside0.mk hy144
        clear hy144
        have H' := Aside0.mk H
        clear H
        have p142 : 0 ≤ (x17_1 : Int) := of_decide_eq_true (by first | (with_reducible assumption) | assumption)
        have q142 : x17_1 < (t139.length : Int) := of_decide_eq_true (by first | (with_reducible assumption) | assumption)
        obtain ⟨ad142, A142_0, c142_0, e142, hx142_0, hl142_0, hi142_0⟩ := at_L3 (Kd.N_reads' HO_15.out).2.2 x17_1 p142 q142
        cases e142
        obtain ⟨ce142, hce142, hMe142, hcc142⟩ := Kd.N_get HO_15.out [] x17_1 p142 (by first | exact q142 | exact of_decide_eq_true (by first | (with_reducible assumption) | assumption) | (have e_ := (Kd.N_reads' HO_15.out).1; omega))
        obtain ⟨ua142_0, uc142_0, rfl, ul142_0, ge142_0⟩ := Kd.FK_slice_open hMe142
        have hv142_0 := hcc142 0 _ rfl
        rw [Nat.add_zero, show ((Kd.slice 3 (Kd.int .i64))).sz = 1 from rfl, Nat.mul_one] at hv142_0
        replace hv142_0 := Option.some.inj (hv142_0.symm.trans hx142_0)
        injection hv142_0 with hva_ hvn_ hvc_
        rw [hva_] at ge142_0
        rw [hvc_] at ul142_0
        have HL142_0 := Aside0.mk (show Kd.V (Kd.int .i64) 3 _ w.heap.size _ _ (rd_L3 t139 x17_1) from Kd.V_mk ul142_0 ge142_0)
        clear hva_ hvn_ hvc_ ge142_0 ul142_0
        clear hcc142 hce142
        have HR142_0 := Aside0.mk hi142_0
        have HC142_0 := Aside0.mk hl142_0
        clear hi142_0 hl142_0
        replace p142 := eq_true p142
        replace q142 := eq_true q142
        go_wp2_with (first | (go_at_fn g; refine (HN.out _ _ _ (rd_L3 t139 x17_1) t143 ?side0 ?side1 ?side2 A15.out).mono ?_; (case side0 => exact (by repeat (first | (with_reducible first | exact HB.out | apply below_alloc | apply pw_below_drewN | apply below_drew1) | exact HB.out))); (case side1 => repeat (first | exact (by repeat (first | (with_reducible exact HR142_0.out) | (with_reducible refine Kd.C_alloc ?_ _) | (with_reducible refine Kd.C_drewN ?_ _) | (with_reducible refine Kd.C_drew ?_) | exact HR142_0.out)) | (with_reducible refine Kd.C_alloc ?_ _) | (with_reducible refine Kd.C_drewN ?_ _) | (with_reducible refine Kd.C_drew ?_))); (case side2 => exact HC142_0.out); rintro e w17 ⟨rfl, hb⟩; have n0_ := Aside0.mk (Kd.R_below (by (with_reducible repeat (first | apply Kd.R_alloc | apply Kd.R_drewN | apply Kd.R_drew)); exact HO_5.out) hb); have n1_ := Aside0.mk (Kd.N_below (by (with_reducible repeat (first | apply Kd.N_alloc | apply Kd.N_drewN | apply Kd.N_drew)); exact HO_15.out) hb); have n2_ := Aside0.mk (Kd.V_below (by (with_reducible repeat (first | apply Kd.V_alloc | apply Kd.V_drewN | apply Kd.V_drew)); exact HL142_0.out) hb); have n3_ := Aside0.mk (Kd.C_below (by repeat (first | (with_reducible exact HR142_0.out) | (with_reducible refine Kd.C_alloc ?_ _) | (with_reducible refine Kd.C_drewN ?_ _) | (with_reducible refine Kd.C_drew ?_) | exact HR142_0.out)) hb); have n4_ := Aside0.mk (below_step (by repeat (first | (with_reducible first | exact HB.out | apply below_alloc | apply pw_below_drewN | apply below_drew1) | exact HB.out)) hb); clear HO_5; clear HO_15; clear HL142_0; clear HR142_0; clear HB; have HO_5 := n0_; have HO_15 := n1_; have HL142_0 := n2_; have HR142_0 := n3_; have HB := n4_; clear n0_ n1_ n2_ n3_ n4_; (try clear hb); (try clear hb2); (try clear hk); (try clear hi)) | ((with_reducible refine gate_builtin (b := .append) (xs := #[.tmp 21, .tmp 25]) rfl ?_); at_builtin; refine Kd.R_append (Kd.int .i64) (w0 := w) w.heap.size rfl (.tmp 21) (.tmp 25) 24 3 (.int .i64 0) 8 rfl Tryz.underlying24 info3 rfl (by decide) (by omega) u5 x5_1 t143 [.int .i64 t143] (fun _ => True) (fun _ => False) rfl rfl ?aP (fun _ hk => hk.elim) ?aF ?aO ?aB ?aS ?aL ?_; (case aP => exact rfl); (case aB => exact (by repeat (first | (with_reducible first | exact HB.out | apply below_alloc | apply pw_below_drewN | apply below_drew1) | exact HB.out))); (case aF => exact (fun _ _ => trivial)); (case aO => exact (by (with_reducible repeat (first | apply Kd.R_alloc | apply Kd.R_drewN | apply Kd.R_drew)); exact HO_5.out)); (case aS => exact (below_size (by repeat (first | (with_reducible first | exact HB.out | apply below_alloc | apply pw_below_drewN | apply below_drew1) | exact HB.out)))); (case aL => have := LMc16.out; omega); intro v145 w18 ho hb hg hat; rw [← Ny144.out] at ho; have n0_ := Aside0.mk (Kd.N_afterv (ok := (fun _ => True)) (by (with_reducible repeat (first | apply Kd.N_alloc | apply Kd.N_drewN | apply Kd.N_drew)); exact Kd.N_mono HO_15.out (fun _ hk => ⟨trivial, hk⟩)) hg hat); have n1_ := Aside0.mk (Kd.V_afterv (ok := (fun k_ => some k_ ≠ (.slice (some ad142) t139.length co11 : Value).ownBlock)) (by (with_reducible repeat (first | apply Kd.V_alloc | apply Kd.V_drewN | apply Kd.V_drew)); exact Kd.V_mono HL142_0.out (fun _ hk => ⟨hk.2, hk.1⟩)) hg hat); have n2_ := Aside0.mk (hb); have n3_ := Aside0.mk (ho); clear HO_15; clear HL142_0; clear HB; clear HO_5; have HO_15 := n0_; have HL142_0 := n1_; have HB := n2_; have HO146 := n3_; clear n0_ n1_ n2_ n3_; clear ho hb hg hat))
        go_roundg k1
        case measure => have := HK1.out; omega
        case rel => exact ⟨(y144), (wrap64 (x17_1 + 1)), (by first | rfl | (simp; done) | (simp [*]; done)), H', ⟨by have := HK1.out; omega⟩, ⟨by (with_reducible repeat (first | apply Kd.R_alloc | apply Kd.R_drewN | apply Kd.R_drew)); exact HO146.out⟩, ⟨by (with_reducible repeat (first | apply Kd.N_alloc | apply Kd.N_drewN | apply Kd.N_drew)); exact Kd.N_mono HO_15.out (fun _ hk => hk.2)⟩, ⟨by repeat (first | (with_reducible first | exact HB.out | apply below_alloc | apply pw_below_drewN | apply below_drew1) | exact HB.out)⟩⟩
       ·
        rw [if_neg c16] at H
        exact absurd H (by simp)
      ·
       rw [if_neg c14] at H
       exact absurd H (by simp)
     ·
      rw [if_neg c13] at H
      exact absurd H (by simp)
    ·
     rw [if_neg c12] at H
     have c12b0 : decide (x17_1 < (t139.length : Int)) = false := decide_eq_false c12
     clear c12
     obtain rfl := Option.some.inj H
     go_wp2
     go_ret
     exact ⟨_, by first | rfl | (simp [errW_none, errW_some] <;> rfl) | (simp [*, errW_none, errW_some] <;> rfl), by (with_reducible repeat (first | apply Kd.R_alloc | apply Kd.R_drewN | apply Kd.R_drew)); exact HO_5.out, by repeat (first | (with_reducible first | exact HB.out | apply below_alloc | apply pw_below_drewN | apply below_drew1) | exact HB.out)⟩
 ·
  replace c5 := Bool.eq_false_iff.mpr c5
  subst c5
  have H1 : (some ([] : List Int)) = some r := by rw [if_neg (show ¬ (false = true) by decide)] at H; exact H
  clear H
  have H := H1
  clear H1
  obtain rfl := Option.some.inj H
  go_enter Tryz.func72, Tryz.ntmps72
  go_wp2_with (first | ((with_reducible refine gate_callee (f := 122) rfl ?_); refine goesL_ (some 9) rfl rfl Tryz.func122 (by kernel_rfl) rfl #[.slice A0 l0.length c0] rfl (by (try simp only [List.map_toArray, List.map_cons, List.map_nil]); first | done | rfl | (simp only [List.length_drop, List.length_take]; rfl)) ?_; (with_reducible refine (impl_SizeOf.calls k _ _ l0 t133 _ ?side1 ?side2 A3.out).mono ?_); (case side1 => repeat (first | exact HR0.out | (with_reducible refine Kd.C_alloc ?_ _) | (with_reducible refine Kd.C_drewN ?_ _) | (with_reducible refine Kd.C_drew ?_))); (case side2 => exact HC0.out); rintro e w' ⟨rfl, ⟨nd, rfl⟩⟩; refine ⟨_, rfl, ?_⟩) | ((with_reducible refine gate_callee (f := 61) rfl ?_); refine goesL_ (some 10) rfl rfl Tryz.func61 (by kernel_rfl) rfl #[.int .i64 t133, .int .i64 0, .int .i64 6] rfl (by (try simp only [List.map_toArray, List.map_cons, List.map_nil]); first | done | rfl | (simp only [List.length_drop, List.length_take]; rfl)) ?_; (with_reducible refine (impl_within.calls t133 0 6 false _ A4.out).mono ?_); rintro e w' ⟨rfl, ⟨nd, rfl⟩⟩; refine ⟨_, rfl, ?_⟩))
  go_ret
  exact ⟨_, by first | rfl | (simp [errW_none, errW_some] <;> rfl) | (simp [*, errW_none, errW_some] <;> rfl), by first | exact Kd.R_nil _ _ _ _ _ | exact Kd.N_nil _ _ _ _ _ | exact Kd.V_nil _ _ _ _ _ | exact Kd.Q_nil _ _ _ _ _ | exact Kd.S_nil _ _ _ _ _, by repeat (first | (with_reducible first | exact HB.out | apply below_alloc | apply pw_below_drewN | apply below_drew1) | exact HB.out)⟩
def impl_MonomialOfSchur.num (k : Nat) (l0 q : List Int) : Option (Int) := impl_KostkaNumber.f k l0 [] q
def impl_MonomialOfSchur.f (k : Nat) (l0 : List Int) : Option (List Int) := impl_vectorOf.f k (impl_MonomialOfSchur.num k l0) l0
set_option maxHeartbeats 8000000 in
set_option maxRecDepth 100000 in
theorem impl_MonomialOfSchur.num_calls (k : Nat) (A0 : Option Addr) (c0 : Nat) (l0 : List Int) (gb : Nat) (w : World) (hcz : w.cell? ⟨gb, 0, none⟩ = some (.slice A0 l0.length c0)) (hr0 : Kd.C (Kd.int .i64) w A0 l0.length l0) (hc0 : l0.length ≤ c0)
    (A : Option Addr) (c : Nat) (q : List Int) (r : Int) (hr1 : Kd.C (Kd.int .i64) w A q.length q) (hc1 : q.length ≤ c) (h : impl_MonomialOfSchur.num k l0 q = some r) :
    Calls Tryz.prog 73 #[.slice A q.length c, .pointer (some ⟨gb, 0, none⟩)] w fun e w' => e = .returned (.int .i64 r) ∧ Below w.heap.size w w' := by
  have HR0 := Aside0.mk hr0
  have HC0 := Aside0.mk hc0
  have HR1 := Aside0.mk hr1
  have HC1 := Aside0.mk hc1
  clear hr0 hc0 hr1 hc1
  have HB := Aside0.mk (Below.refl w.heap.size w)
  unfold impl_MonomialOfSchur.num at h
  have hK := fun (W : World) (h1 : Kd.C (Kd.int .i64) W A0 l0.length l0) (h2 : Kd.C (Kd.int .i64) W A q.length q) => impl_KostkaNumber.calls k A0 c0 l0 none 0 [] A c q r W h1 HC0.out (Kd.C_nil _ _) (Nat.le_refl _) h2 HC1.out h
  simp only [List.length_nil] at hK
  have HK := Aside0.mk hK
  clear hK h
  go_enter Tryz.func73, Tryz.ntmps73
  go_wp2_with ((with_reducible refine gate_callee (f := 74) rfl ?_); refine goesL_ (some 7) rfl rfl Tryz.func74 (by kernel_rfl) rfl #[.agg #[.slice A0 l0.length c0, .slice none 0 0], .slice A q.length c] rfl (by (try simp only [List.map_toArray, List.map_cons, List.map_nil]); first | done | rfl | (simp only [List.length_drop, List.length_take]; rfl)) ?_; (refine (HK.out _ ?side1 ?side2).mono ?_); (case side1 => exact (by repeat (first | exact HR0.out | (with_reducible refine Kd.C_alloc ?_ _) | (with_reducible refine Kd.C_drewN ?_ _) | (with_reducible refine Kd.C_drew ?_)))); (case side2 => exact (by repeat (first | exact HR1.out | (with_reducible refine Kd.C_alloc ?_ _) | (with_reducible refine Kd.C_drewN ?_ _) | (with_reducible refine Kd.C_drew ?_)))); rintro e w' ⟨rfl, hb⟩; refine ⟨_, rfl, ?_⟩; have n1_ := Aside0.mk (below_step (by repeat (first | (with_reducible first | exact HB.out | apply below_alloc | apply pw_below_drewN | apply below_drew1) | exact HB.out)) hb); clear HB; have HB := n1_; clear n1_ hb)
  go_ret
  exact ⟨rfl, (by repeat (first | (with_reducible first | exact HB.out | apply below_alloc | apply pw_below_drewN | apply below_drew1) | exact HB.out))⟩
set_option maxHeartbeats 8000000 in
set_option maxRecDepth 100000 in
theorem impl_MonomialOfSchur.calls (k : Nat) (A0 : Option Addr) (c0 : Nat) (l0 : List Int) (r : List Int) (w : World) (hr0 : Kd.C (Kd.int .i64) w A0 l0.length l0) (hc0 : l0.length ≤ c0) (h : impl_MonomialOfSchur.f k l0 = some r) :
  Calls Tryz.prog 30 #[.slice A0 l0.length c0] w fun e w' => ∃ v0_ : Value, e = .returned (v0_) ∧ Kd.R (Kd.int .i64) 3 w' w.heap.size (fun _ => True) v0_ r ∧ Below w.heap.size w w' := by
 have HR0 := Aside0.mk hr0
 have HC0 := Aside0.mk hc0
 clear hr0 hc0
 have HB := Aside0.mk (Below.refl w.heap.size w)
 have H := Aside0.mk (show impl_vectorOf.f k (impl_MonomialOfSchur.num k l0) l0 = some r from h)
 clear h
 have E := Aside0.mk (show ∀ args w, (callFunc 73 args).run Tryz.prog w = .ok (.enter 73 args) w from enters_of Tryz.func73 (by kernel_rfl) rfl)
 go_enter Tryz.func30, Tryz.ntmps30
 go_wp2_with (first | ((with_reducible refine gate_dst (N := 1) rfl ?_); refine box_event ?hg (N := 1) ?hd (cs := #[.slice A0 l0.length c0]) (t := 24) ?hr ?_; (case hd => rfl); (case hg => rfl); (case hr => first | (go_simp; done) | (go_simp; rfl)); intro gb hg w4 hbox hb; have n0_ := Aside0.mk (below_step (by repeat (first | (with_reducible first | exact HB.out | apply below_alloc | apply pw_below_drewN | apply below_drew1) | exact HB.out)) hb); have BK := Aside0.mk (hbox); clear HB; have HB := n0_; clear n0_; clear hb hbox hg; have hcz := (blk_cell BK.out 0).trans rfl) | ((with_reducible refine gate_callee (f := 72) rfl ?_); refine goesL_ (some 5) rfl rfl Tryz.func72 (by kernel_rfl) rfl #[.slice A0 l0.length c0, .func (.func 73) #[] #[.pointer (some ⟨gb, 0, none⟩)]] rfl (by (try simp only [List.map_toArray, List.map_cons, List.map_nil]); first | done | rfl | (simp only [List.length_drop, List.length_take]; rfl)) ?_; (refine (impl_vectorOf.calls k (impl_MonomialOfSchur.num k l0) 73 #[.pointer (some ⟨gb, 0, none⟩)] E.out A0 c0 l0 r _ ?side0 ?side1 ?side2 H.out).mono ?_); (case side0 => exact (fun W A c q r' hbW hCq hcq hk => impl_MonomialOfSchur.num_calls k A0 c0 l0 gb W ((hbW.cell (p := ⟨gb, 0, none⟩) (blk_lt (by (with_reducible repeat (first | refine blk_drewN ?_ _ | refine blk_drew ?_ | refine blk_alloc ?_ _)); exact BK.out))).trans ((blk_cell (by (with_reducible repeat (first | refine blk_drewN ?_ _ | refine blk_drew ?_ | refine blk_alloc ?_ _)); exact BK.out) 0).trans rfl)) (Kd.C_below HR0.out (below_step (by repeat (first | (with_reducible first | exact HB.out | apply below_alloc | apply pw_below_drewN | apply below_drew1) | exact HB.out)) hbW)) HC0.out A c q r' hCq hcq hk)); (case side1 => exact (Kd.C_below HR0.out (by repeat (first | (with_reducible first | exact HB.out | apply below_alloc | apply pw_below_drewN | apply below_drew1) | exact HB.out)))); (case side2 => exact HC0.out); rintro e w' ⟨v0, rfl, ho, hb⟩; refine ⟨_, rfl, ?_⟩; have n0_ := Aside0.mk (Kd.R_lower ho (below_size (by repeat (first | (with_reducible first | exact HB.out | apply below_alloc | apply pw_below_drewN | apply below_drew1) | exact HB.out)))); have n1_ := Aside0.mk (below_step (by repeat (first | (with_reducible first | exact HB.out | apply below_alloc | apply pw_below_drewN | apply below_drew1) | exact HB.out)) hb); clear HB; have HO := n0_; have HB := n1_; clear n0_ n1_; clear hb ho))
 go_ret
 exact ⟨_, rfl, by (with_reducible repeat (first | apply Kd.R_alloc | apply Kd.R_drewN | apply Kd.R_drew)); exact HO.out, (by repeat (first | (with_reducible first | exact HB.out | apply below_alloc | apply pw_below_drewN | apply below_drew1) | exact HB.out))⟩
def laws_eqIntS.l0 : Nat → List Int → List Int → Int → Option (Bool)
  | 0, _, _, _ => none
  | k + 1, x0, x1, x5 => if x5 < (x0.length : Int) then (if 0 ≤ x5 then (if x5 < (x1.length : Int) then (if (rd x0 x5) = (rd x1 x5) then (laws_eqIntS.l0 k x0 x1 (wrap64 (x5 + 1))) else (some false)) else (none)) else (none)) else (some true)
def laws_eqIntS.f (k : Nat) (l0 : List Int) (l1 : List Int) : Option (Bool) := if (l0.length : Int) = (l1.length : Int) then (laws_eqIntS.l0 k l0 l1 0) else (some false)
set_option maxHeartbeats 8000000 in
set_option maxRecDepth 100000 in
theorem laws_eqIntS.calls (k : Nat) (A0 : Option Addr) (c0 : Nat) (l0 : List Int) (A1 : Option Addr) (c1 : Nat) (l1 : List Int) (r : Bool) (w : World) (hr0 : Kd.C (Kd.int .i64) w A0 l0.length l0) (hc0 : l0.length ≤ c0) (hr1 : Kd.C (Kd.int .i64) w A1 l1.length l1) (hc1 : l1.length ≤ c1) (h : laws_eqIntS.f k l0 l1 = some r) :
  Calls Tryz.prog 31 #[.slice A0 l0.length c0, .slice A1 l1.length c1] w fun e w' => e = .returned (.bool r) ∧ Drawn0 w w' := by
 have HR0 := Aside0.mk hr0
 have HC0 := Aside0.mk hc0
 clear hr0 hc0
 have HR1 := Aside0.mk hr1
 have HC1 := Aside0.mk hc1
 clear hr1 hc1
 have H : (if (l0.length : Int) = (l1.length : Int) then (laws_eqIntS.l0 k l0 l1 0) else (some false)) = some r := h
 clear h
 by_cases c3 : (l0.length : Int) = (l1.length : Int)
 ·
  rw [if_pos c3] at H
  have c3b0 : ((l0.length : Int) == (l1.length : Int)) = true := beq_iff_eq.mpr c3
  have c3b1 : ((l0.length : Int) != (l1.length : Int)) = false := bne_eq_false_iff_eq.mpr c3
  have c3b2 : (l0.length == l1.length) = true := by first | simpa using c3 | (simp at c3 ⊢; omega)
  clear c3
  have H' := Aside0.mk H
  clear H
  go_enter Tryz.func31, Tryz.ntmps31
  go_wp2
  repeat (go_quiet (fail); try go_wp2)
  go_loopg [5] k (fun kq v5 w' => ∃ (x5_1 : Int), v5 = .int .i64 x5_1 ∧ Aside0 (laws_eqIntS.l0 kq l0 l1 x5_1 = some r) ∧ Aside0 (kq ≤ k) ∧ Drawn0 w w')
  case atStart => exact ⟨(0), (by first | rfl | (simp; done) | (simp [*]; done)), H', ⟨Nat.le_refl _⟩, by repeat (first | exact Drawn0.refl _ | apply Drawn0.step)⟩
  case round =>
   clear H'
   try clear c1
   try clear p2
   try clear c3
   try clear c3b0
   try clear c3b1
   try clear c3b2
   obtain ⟨x5_1, rfl, HA, HK1, ⟨m1, rfl⟩⟩ := hrel
   cases gk with
   | zero => exact absurd HA.out (by simp [laws_eqIntS.l0])
   | succ k1 =>
    have H := HA.out
    clear HA
    simp only [laws_eqIntS.l0] at H
    by_cases c4 : x5_1 < (l0.length : Int)
    ·
     rw [if_pos c4] at H
     have c4b0 : decide (x5_1 < (l0.length : Int)) = true := decide_eq_true c4
     clear c4
     by_cases c5 : 0 ≤ x5_1
     ·
      rw [if_pos c5] at H
      have c5b0 : decide (0 ≤ x5_1) = true := decide_eq_true c5
      clear c5
      by_cases c6 : x5_1 < (l1.length : Int)
      ·
       rw [if_pos c6] at H
       have c6b0 : decide (x5_1 < (l1.length : Int)) = true := decide_eq_true c6
       clear c6
       by_cases c7 : (rd l0 x5_1) = (rd l1 x5_1)
       ·
        rw [if_pos c7] at H
        have c7b0 : ((rd l0 x5_1) == (rd l1 x5_1)) = true := beq_iff_eq.mpr c7
        have c7b1 : ((rd l0 x5_1) != (rd l1 x5_1)) = false := bne_eq_false_iff_eq.mpr c7
        clear c7
        have H' := Aside0.mk H
        clear H
        have p354 : 0 ≤ (x5_1 : Int) := of_decide_eq_true (by first | (with_reducible assumption) | assumption)
        have q354 : x5_1 < (l0.length : Int) := of_decide_eq_true (by first | (with_reducible assumption) | assumption)
        obtain ⟨ad354, e354, hx354_0⟩ := Kd.at_int HR0.out x5_1 p354 q354
        cases e354
        replace p354 := eq_true p354
        replace q354 := eq_true q354
        have p355 : 0 ≤ (x5_1 : Int) := of_decide_eq_true (by first | (with_reducible assumption) | assumption)
        have q355 : x5_1 < (l1.length : Int) := of_decide_eq_true (by first | (with_reducible assumption) | assumption)
        obtain ⟨ad355, e355, hx355_0⟩ := Kd.at_int HR1.out x5_1 p355 q355
        cases e355
        replace p355 := eq_true p355
        replace q355 := eq_true q355
        go_wp2
        repeat (go_quiet (fail); try go_wp2)
        go_roundg k1
        case measure => have := HK1.out; omega
        case rel => exact ⟨(wrap64 (x5_1 + 1)), (by first | rfl | (simp; done) | (simp [*]; done)), H', ⟨by have := HK1.out; omega⟩, by repeat (first | exact Drawn0.refl _ | apply Drawn0.step)⟩
       ·
        rw [if_neg c7] at H
        have c7b0 : ((rd l0 x5_1) == (rd l1 x5_1)) = false := beq_eq_false_iff_ne.mpr c7
        have c7b1 : ((rd l0 x5_1) != (rd l1 x5_1)) = true := bne_iff_ne.mpr c7
        obtain rfl := Option.some.inj H
        have p354 : 0 ≤ (x5_1 : Int) := of_decide_eq_true (by first | (with_reducible assumption) | assumption)
        have q354 : x5_1 < (l0.length : Int) := of_decide_eq_true (by first | (with_reducible assumption) | assumption)
        obtain ⟨ad354, e354, hx354_0⟩ := Kd.at_int HR0.out x5_1 p354 q354
        cases e354
        replace p354 := eq_true p354
        replace q354 := eq_true q354
        have p355 : 0 ≤ (x5_1 : Int) := of_decide_eq_true (by first | (with_reducible assumption) | assumption)
        have q355 : x5_1 < (l1.length : Int) := of_decide_eq_true (by first | (with_reducible assumption) | assumption)
        obtain ⟨ad355, e355, hx355_0⟩ := Kd.at_int HR1.out x5_1 p355 q355
        cases e355
        replace p355 := eq_true p355
        replace q355 := eq_true q355
        go_wp2
        repeat (go_quiet (fail); try go_wp2)
        go_ret
        exact ⟨by first | rfl | (simp; done) | (simp [*]; done), by repeat (first | exact Drawn0.refl _ | apply Drawn0.step)⟩
      ·
       rw [if_neg c6] at H
       exact absurd H (by simp)
     ·
      rw [if_neg c5] at H
      exact absurd H (by simp)
    ·
     rw [if_neg c4] at H
     have c4b0 : decide (x5_1 < (l0.length : Int)) = false := decide_eq_false c4
     clear c4
     obtain rfl := Option.some.inj H
     go_wp2
     repeat (go_quiet (fail); try go_wp2)
     go_ret
     exact ⟨by first | rfl | (simp; done) | (simp [*]; done), by repeat (first | exact Drawn0.refl _ | apply Drawn0.step)⟩
 ·
  rw [if_neg c3] at H
  have c3b0 : ((l0.length : Int) == (l1.length : Int)) = false := beq_eq_false_iff_ne.mpr c3
  have c3b1 : ((l0.length : Int) != (l1.length : Int)) = true := bne_iff_ne.mpr c3
  have c3b2 : (l0.length == l1.length) = false := by first | simpa using c3 | (simp at c3 ⊢; omega)
  obtain rfl := Option.some.inj H
  go_enter Tryz.func31, Tryz.ntmps31
  go_wp2
  repeat (go_quiet (fail); try go_wp2)
  go_ret
  exact ⟨by first | rfl | (simp; done) | (simp [*]; done), by repeat (first | exact Drawn0.refl _ | apply Drawn0.step)⟩
def laws_markIntS.l0 : Nat → List Int → Int → Int → Option (Int × List Int)
  | 0, _, _, _ => none
  | k + 1, x0, x1, x5 => if x5 < (x0.length : Int) then (if 0 ≤ x5 then (laws_markIntS.l0 k (x0.set (x5 : Int).toNat x1) (wrap64 (x1 + 1)) (wrap64 (x5 + 1))) else (none)) else (some (x1, x0))
def laws_markIntS.f (k : Nat) (l0 : List Int) (a1 : Int) : Option (Int × List Int) := laws_markIntS.l0 k l0 a1 0
set_option maxHeartbeats 8000000 in
set_option maxRecDepth 100000 in
theorem laws_markIntS.calls (k : Nat) (P0_ : Nat → Prop) (u9000_ : Value) (l0 : List Int) (a1 : Int) (r1 : Int) (r2 : List Int) (w0 w : World) (hB : Below w0.heap.size w0 w) (ho0 : Kd.R (Kd.int .i64) 3 w w0.heap.size P0_ u9000_ l0) (h : laws_markIntS.f k l0 a1 = some (r1, r2)) :
  Calls Tryz.prog 32 #[u9000_, .int .i64 a1] w fun e w' => e = .returned (.int .i64 r1) ∧ Kd.R (Kd.int .i64) 3 w' w0.heap.size (fun k_ => (P0_ k_ ∨ w.heap.size ≤ k_)) u9000_ r2 ∧ Below w0.heap.size w0 w' ∧ Kept w w' (fun k_ => P0_ k_) := by
 have HO0 := Aside0.mk (show Kd.R (Kd.int .i64) 3 w w0.heap.size (fun k_ => (P0_ k_ ∨ w.heap.size ≤ k_)) u9000_ l0 from Kd.R_mono ho0 (fun k_ hk => (.inl hk)))
 have HK := Aside0.mk (Kept.refl w (fun k_ => P0_ k_))
 have HW0 := Aside0.mk hB.size
 have HB := Aside0.mk hB
 clear hB
 have H : (laws_markIntS.l0 k l0 a1 0) = some (r1, r2) := h
 clear h
 have H' := Aside0.mk H
 clear H
 go_enter Tryz.func32, Tryz.ntmps32
 go_wp2
 go_loopg [1, 5] k (fun kq v1 v5 w' => ∃ (x0_1 : List Int) (x1_1 : Int) (x5_1 : Int), v1 = .int .i64 x1_1 ∧ v5 = .int .i64 x5_1 ∧ Aside0 (laws_markIntS.l0 kq x0_1 x1_1 x5_1 = some (r1, r2)) ∧ Aside0 (kq ≤ k) ∧ Aside0 (Kd.R (Kd.int .i64) 3 w' w0.heap.size (fun k_ => (P0_ k_ ∨ w.heap.size ≤ k_)) u9000_ x0_1) ∧ Aside0 (Kept w w' (fun k_ => P0_ k_)) ∧ Aside0 (Below w0.heap.size w0 w'))
 case atStart => exact ⟨(l0), (a1), (0), (by first | rfl | (simp; done) | (simp [*]; done)), (by first | rfl | (simp; done) | (simp [*]; done)), H', ⟨Nat.le_refl _⟩, ⟨by (with_reducible repeat (first | apply Kd.R_alloc | apply Kd.R_drewN | apply Kd.R_drew)); exact HO0.out⟩, ⟨by repeat (first | (with_reducible first | exact HK.out | apply Kept.alloc | apply Kept.drewN | apply Kept.drew) | exact HK.out)⟩, ⟨by repeat (first | (with_reducible first | exact HB.out | apply below_alloc | apply pw_below_drewN | apply below_drew1) | exact HB.out)⟩⟩
 case round =>
  clear H'
  try clear p2
  obtain ⟨x0_1, x1_1, x5_1, rfl, rfl, HA, HK1, HO_0, HK, HB⟩ := hrel
  cases gk with
  | zero => exact absurd HA.out (by simp [laws_markIntS.l0])
  | succ k1 =>
   have H := HA.out
   clear HA
   simp only [laws_markIntS.l0] at H
   by_cases c3 : x5_1 < (x0_1.length : Int)
   ·
    rw [if_pos c3] at H
    have c3b0 : decide (x5_1 < (x0_1.length : Int)) = true := decide_eq_true c3
    clear c3
    by_cases c4 : 0 ≤ x5_1
    ·
     rw [if_pos c4] at H
     have c4b0 : decide (0 ≤ x5_1) = true := decide_eq_true c4
     clear c4
     obtain ⟨y356, hy356⟩ : ∃ y_ : List Int, y_ = (x0_1.set (x5_1 : Int).toNat x1_1) := ⟨_, rfl⟩
     replace H : (laws_markIntS.l0 k1 y356 (wrap64 (x1_1 + 1)) (wrap64 (x5_1 + 1))) = some (r1, r2) := by first | (rw [hy356]; with_reducible exact H) | (have H2_ := (Option.bind_some _ _).symm.trans H; rw [hy356]; with_reducible exact H2_) | (have H2_ := (Option.bind_some _ _).symm.trans H; with_reducible exact H2_) | with_reducible exact H | (rw [hy356]; exact H) | exact H
     have Ny356 := Aside0.mk hy356
     clear hy356
     have H' := Aside0.mk H
     clear H
     obtain ⟨Ao6, co6, eo6⟩ := Kd.R_slice HO_0.out
     subst eo6
     have p5 : 0 ≤ (x5_1 : Int) := of_decide_eq_true (by first | (with_reducible assumption) | assumption)
     have q5 : (x5_1 : Int) < ((x0_1.length : Int) : Int) := of_decide_eq_true (by first | (with_reducible assumption) | assumption)
     obtain ⟨go5, co5, eo5, gb5, gl5, cl5, HG5⟩ := Kd.R_form HO_0.out (by omega)
     (first | cases eo5 | (injection eo5 with ea_ en_ ec_; (first | subst ea_ | (injection ea_ with ea_; subst ea_)); subst ec_; clear en_))
     have GB5 := Aside0.mk gb5
     have GG5 := Aside0.mk HG5
     clear gb5 gl5 HG5
     have HMgo5 := Aside0.mk (show (P0_ go5 ∨ w.heap.size ≤ go5) from (HO_0.out.1 _ rfl))
     obtain ⟨hx5_0, hf5_0⟩ := Kd.R_celln 0 HO_0.out (x5_1 : Int) p5 q5
     replace p5 := eq_true p5
     replace q5 := eq_true q5
     have HP7 := Kd.R_putg HO_0.out (x5_1 : Int) x1_1
     go_wp2_with (first | ((with_reducible refine gate_store (t := 3) (p := 15) rfl ?_); refine store_event (t := 3) (p := 15) (v := ?vo_w8) (w1 := (wr.setCell ⟨go5, (x5_1 : Int).toNat, none⟩ (.int .i64 x1_1))) ?hg ?ho ?hn ?hr ?_; (case ho => rfl); (case hg => rfl); (case hn => rfl); (case hr => first | (go_simp; done) | (go_simp; rfl)); intro w8 hw; have hg : wr.grownBy w8 (some go5) := (by rw [hw]; exact HP7.2); have hp_ : Kd.R (Kd.int .i64) 3 w8 w0.heap.size (fun k_ => (P0_ k_ ∨ w.heap.size ≤ k_)) (.slice (some ⟨go5, 0, none⟩) x0_1.length co6) y356 := (by rw [hw, Ny356.out]; exact HP7.1); clear HP7; have n0_ := Aside0.mk (hp_); have n1_ := Aside0.mk ((by rw [hw]; exact below_set (HB.out) GB5.out : Below w0.heap.size w0 w8)); have n2_ := Aside0.mk (Kept.of_grown (S := (fun k_ => P0_ k_)) hg (by repeat (first | (with_reducible first | exact HK.out | apply Kept.alloc | apply Kept.drewN | apply Kept.drew) | exact HK.out)) (fun k_ e_ => (HO_0.out.1 k_ e_))); clear HO_0; clear HB; clear HK; have HO_0 := n0_; have HB := n1_; have HK := n2_; clear n0_ n1_ n2_; clear hg hw hp_))
     go_roundg k1
     case measure => have := HK1.out; omega
     case rel => exact ⟨(y356), (wrap64 (x1_1 + 1)), (wrap64 (x5_1 + 1)), (by first | rfl | (simp; done) | (simp [*]; done)), (by first | rfl | (simp; done) | (simp [*]; done)), H', ⟨by have := HK1.out; omega⟩, ⟨by (with_reducible repeat (first | apply Kd.R_alloc | apply Kd.R_drewN | apply Kd.R_drew)); exact HO_0.out⟩, ⟨by repeat (first | (with_reducible first | exact HK.out | apply Kept.alloc | apply Kept.drewN | apply Kept.drew) | exact HK.out)⟩, ⟨by repeat (first | (with_reducible first | exact HB.out | apply below_alloc | apply pw_below_drewN | apply below_drew1) | exact HB.out)⟩⟩
    ·
     rw [if_neg c4] at H
     exact absurd H (by simp)
   ·
    rw [if_neg c3] at H
    have c3b0 : decide (x5_1 < (x0_1.length : Int)) = false := decide_eq_false c3
    clear c3
    simp only [Option.some.injEq, Prod.mk.injEq] at H
    obtain ⟨rfl, rfl⟩ := H
    obtain ⟨Ao9, co9, eo9⟩ := Kd.R_slice HO_0.out
    subst eo9
    go_wp2
    go_ret
    exact ⟨by first | rfl | (simp [errW_none, errW_some] <;> rfl) | (simp [*, errW_none, errW_some] <;> rfl), by (with_reducible repeat (first | apply Kd.R_alloc | apply Kd.R_drewN | apply Kd.R_drew)); exact HO_0.out, by repeat (first | (with_reducible first | exact HB.out | apply below_alloc | apply pw_below_drewN | apply below_drew1) | exact HB.out), by repeat (first | (with_reducible first | exact HK.out | apply Kept.alloc | apply Kept.drewN | apply Kept.drew) | exact HK.out)⟩
def laws_heldIntS.l0 : Nat → List Int → Int → Int → Option (Int)
  | 0, _, _, _ => none
  | k + 1, x0, x1, x5 => if x5 < (x0.length : Int) then (if 0 ≤ x5 then (if (rd x0 x5) = x1 then (laws_heldIntS.l0 k x0 (wrap64 (x1 + 1)) (wrap64 (x5 + 1))) else (some (-1))) else (none)) else (some x1)
def laws_heldIntS.f (k : Nat) (l0 : List Int) (a1 : Int) : Option (Int) := laws_heldIntS.l0 k l0 a1 0
set_option maxHeartbeats 8000000 in
set_option maxRecDepth 100000 in
theorem laws_heldIntS.calls (k : Nat) (A0 : Option Addr) (c0 : Nat) (l0 : List Int) (a1 : Int) (r : Int) (w : World) (hr0 : Kd.C (Kd.int .i64) w A0 l0.length l0) (hc0 : l0.length ≤ c0) (h : laws_heldIntS.f k l0 a1 = some r) :
  Calls Tryz.prog 33 #[.slice A0 l0.length c0, .int .i64 a1] w fun e w' => e = .returned (.int .i64 r) ∧ Drawn0 w w' := by
 have HR0 := Aside0.mk hr0
 have HC0 := Aside0.mk hc0
 clear hr0 hc0
 have H : (laws_heldIntS.l0 k l0 a1 0) = some r := h
 clear h
 have H' := Aside0.mk H
 clear H
 go_enter Tryz.func33, Tryz.ntmps33
 go_wp2
 go_loopg [1, 5] k (fun kq v1 v5 w' => ∃ (x1_1 : Int) (x5_1 : Int), v1 = .int .i64 x1_1 ∧ v5 = .int .i64 x5_1 ∧ Aside0 (laws_heldIntS.l0 kq l0 x1_1 x5_1 = some r) ∧ Aside0 (kq ≤ k) ∧ Drawn0 w w')
 case atStart => exact ⟨(a1), (0), (by first | rfl | (simp; done) | (simp [*]; done)), (by first | rfl | (simp; done) | (simp [*]; done)), H', ⟨Nat.le_refl _⟩, by repeat (first | exact Drawn0.refl _ | apply Drawn0.step)⟩
 case round =>
  clear H'
  try clear p2
  obtain ⟨x1_1, x5_1, rfl, rfl, HA, HK1, ⟨m1, rfl⟩⟩ := hrel
  cases gk with
  | zero => exact absurd HA.out (by simp [laws_heldIntS.l0])
  | succ k1 =>
   have H := HA.out
   clear HA
   simp only [laws_heldIntS.l0] at H
   by_cases c3 : x5_1 < (l0.length : Int)
   ·
    rw [if_pos c3] at H
    have c3b0 : decide (x5_1 < (l0.length : Int)) = true := decide_eq_true c3
    clear c3
    by_cases c4 : 0 ≤ x5_1
    ·
     rw [if_pos c4] at H
     have c4b0 : decide (0 ≤ x5_1) = true := decide_eq_true c4
     clear c4
     by_cases c5 : (rd l0 x5_1) = x1_1
     ·
      rw [if_pos c5] at H
      have c5b0 : ((rd l0 x5_1) == x1_1) = true := beq_iff_eq.mpr c5
      have c5b1 : ((rd l0 x5_1) != x1_1) = false := bne_eq_false_iff_eq.mpr c5
      clear c5
      have H' := Aside0.mk H
      clear H
      have p357 : 0 ≤ (x5_1 : Int) := of_decide_eq_true (by first | (with_reducible assumption) | assumption)
      have q357 : x5_1 < (l0.length : Int) := of_decide_eq_true (by first | (with_reducible assumption) | assumption)
      obtain ⟨ad357, e357, hx357_0⟩ := Kd.at_int HR0.out x5_1 p357 q357
      cases e357
      replace p357 := eq_true p357
      replace q357 := eq_true q357
      go_wp2
      go_roundg k1
      case measure => have := HK1.out; omega
      case rel => exact ⟨(wrap64 (x1_1 + 1)), (wrap64 (x5_1 + 1)), (by first | rfl | (simp; done) | (simp [*]; done)), (by first | rfl | (simp; done) | (simp [*]; done)), H', ⟨by have := HK1.out; omega⟩, by repeat (first | exact Drawn0.refl _ | apply Drawn0.step)⟩
     ·
      rw [if_neg c5] at H
      have c5b0 : ((rd l0 x5_1) == x1_1) = false := beq_eq_false_iff_ne.mpr c5
      have c5b1 : ((rd l0 x5_1) != x1_1) = true := bne_iff_ne.mpr c5
      obtain rfl := Option.some.inj H
      have p357 : 0 ≤ (x5_1 : Int) := of_decide_eq_true (by first | (with_reducible assumption) | assumption)
      have q357 : x5_1 < (l0.length : Int) := of_decide_eq_true (by first | (with_reducible assumption) | assumption)
      obtain ⟨ad357, e357, hx357_0⟩ := Kd.at_int HR0.out x5_1 p357 q357
      cases e357
      replace p357 := eq_true p357
      replace q357 := eq_true q357
      go_wp2
      go_ret
      exact ⟨by first | rfl | (simp; done) | (simp [*]; done), by repeat (first | exact Drawn0.refl _ | apply Drawn0.step)⟩
    ·
     rw [if_neg c4] at H
     exact absurd H (by simp)
   ·
    rw [if_neg c3] at H
    have c3b0 : decide (x5_1 < (l0.length : Int)) = false := decide_eq_false c3
    clear c3
    obtain rfl := Option.some.inj H
    go_wp2
    go_ret
    exact ⟨by first | rfl | (simp; done) | (simp [*]; done), by repeat (first | exact Drawn0.refl _ | apply Drawn0.step)⟩
def laws_FnExactMonomialOfSchur.j0 : Nat → List Int → List Int → List Int → Bool → Option (Bool)
  | 0, _, _, _, _ => none
  | k + 1, x0, x3, x5, x39 => if x39 = true then (some false) else ((laws_markIntS.f k x5 1).bind fun bt378 => ((laws_heldIntS.f k bt378.2 1).bind fun t380 => (if t380 < 0 then (some false) else (if t380 = bt378.1 then ((laws_toIntS.f k x0).bind fun t381 => ((impl_MonomialOfSchur.f k t381).bind fun t384 => ((laws_eqIntS.f k t384 x3).bind fun t387 => (if t387 = true then ((laws_heldIntS.f k bt378.2 1).bind fun t388 => (if t388 < 0 then (some false) else (if t388 = bt378.1 then (some true) else (some false)))) else (some false))))) else (some false)))))
def laws_FnExactMonomialOfSchur.f (k : Nat) (l0 : List Int) : Option (Bool) := if (l0.length : Int) > 1048576 then (some true) else ((laws_toIntS.f k l0).bind fun t358 => ((spec_MonomialOfSchur.f k t358).bind fun t361 => ((laws_toIntS.f k l0).bind fun t364 => ((impl_MonomialOfSchur.f k t364).bind fun t367 => ((laws_eqIntS.f k t367 t361).bind fun t370 => (if t370 = true then ((laws_toIntS.f k l0).bind fun t371 => ((laws_eqIntS.f k t364 t371).bind fun t374 => (if t374 = true then ((laws_markIntS.f k t364 1).bind fun bt375 => (if bt375.1 < 0 then (laws_FnExactMonomialOfSchur.j0 k l0 t361 t367 true) else ((laws_eqIntS.f k t367 t361).bind fun t377 => (laws_FnExactMonomialOfSchur.j0 k l0 t361 t367 (!t377))))) else (some false)))) else (some false)))))))
set_option maxHeartbeats 8000000 in
set_option maxRecDepth 100000 in
theorem laws_FnExactMonomialOfSchur.calls (k : Nat) (A0 : Option Addr) (c0 : Nat) (l0 : List Int) (r : Bool) (w : World) (hr0 : Kd.C (Kd.int .i64) w A0 l0.length l0) (hc0 : l0.length ≤ c0) (h : laws_FnExactMonomialOfSchur.f k l0 = some r) (hT : r = true) :
  Calls Tryz.prog 5 #[.slice A0 l0.length c0] w fun e w' => e = .returned (.bool r) ∧ Below w.heap.size w w' := by
 have HR0 := Aside0.mk hr0
 have HC0 := Aside0.mk hc0
 clear hr0 hc0
 have HB := Aside0.mk (Below.refl w.heap.size w)
 have H : (if (l0.length : Int) > 1048576 then (some true) else ((laws_toIntS.f k l0).bind fun t358 => ((spec_MonomialOfSchur.f k t358).bind fun t361 => ((laws_toIntS.f k l0).bind fun t364 => ((impl_MonomialOfSchur.f k t364).bind fun t367 => ((laws_eqIntS.f k t367 t361).bind fun t370 => (if t370 = true then ((laws_toIntS.f k l0).bind fun t371 => ((laws_eqIntS.f k t364 t371).bind fun t374 => (if t374 = true then ((laws_markIntS.f k t364 1).bind fun bt375 => (if bt375.1 < 0 then (laws_FnExactMonomialOfSchur.j0 k l0 t361 t367 true) else ((laws_eqIntS.f k t367 t361).bind fun t377 => (laws_FnExactMonomialOfSchur.j0 k l0 t361 t367 (!t377))))) else (some false)))) else (some false)))))))) = some r := h
 clear h
 by_cases c2 : (l0.length : Int) > 1048576
 ·
  rw [if_pos c2] at H
  have c2b0 : decide (1048576 < (l0.length : Int)) = true := decide_eq_true c2
  have c2b1 : decide (1048576 < l0.length) = true := decide_eq_true (by omega)
  clear c2
  obtain rfl := Option.some.inj H
  go_enter Tryz.func5, Tryz.ntmps5
  go_wp2
  go_ret
  exact ⟨by first | rfl | (simp [errW_none, errW_some] <;> rfl) | (simp [*, errW_none, errW_some] <;> rfl), by repeat (first | (with_reducible first | exact HB.out | apply below_alloc | apply pw_below_drewN | apply below_drew1) | exact HB.out)⟩
 ·
  rw [if_neg c2] at H
  have c2b0 : decide (1048576 < (l0.length : Int)) = false := decide_eq_false c2
  have c2b1 : decide (1048576 < l0.length) = false := decide_eq_false (by omega)
  clear c2
  replace H := Option.bind_eq_some_iff.mp H
  obtain ⟨t358, A30, H⟩ := H
  replace H : ((spec_MonomialOfSchur.f k t358).bind fun t361 => ((laws_toIntS.f k l0).bind fun t364 => ((impl_MonomialOfSchur.f k t364).bind fun t367 => ((laws_eqIntS.f k t367 t361).bind fun t370 => (if t370 = true then ((laws_toIntS.f k l0).bind fun t371 => ((laws_eqIntS.f k t364 t371).bind fun t374 => (if t374 = true then ((laws_markIntS.f k t364 1).bind fun bt375 => (if bt375.1 < 0 then (laws_FnExactMonomialOfSchur.j0 k l0 t361 t367 true) else ((laws_eqIntS.f k t367 t361).bind fun t377 => (laws_FnExactMonomialOfSchur.j0 k l0 t361 t367 (!t377))))) else (some false)))) else (some false)))))) = some r := H
  have A3 := Aside0.mk A30
  clear A30
  replace H := Option.bind_eq_some_iff.mp H
  obtain ⟨t361, A40, H⟩ := H
  replace H : ((laws_toIntS.f k l0).bind fun t364 => ((impl_MonomialOfSchur.f k t364).bind fun t367 => ((laws_eqIntS.f k t367 t361).bind fun t370 => (if t370 = true then ((laws_toIntS.f k l0).bind fun t371 => ((laws_eqIntS.f k t364 t371).bind fun t374 => (if t374 = true then ((laws_markIntS.f k t364 1).bind fun bt375 => (if bt375.1 < 0 then (laws_FnExactMonomialOfSchur.j0 k l0 t361 t367 true) else ((laws_eqIntS.f k t367 t361).bind fun t377 => (laws_FnExactMonomialOfSchur.j0 k l0 t361 t367 (!t377))))) else (some false)))) else (some false))))) = some r := H
  have A4 := Aside0.mk A40
  clear A40
  replace H := Option.bind_eq_some_iff.mp H
  obtain ⟨t364, A50, H⟩ := H
  replace H : ((impl_MonomialOfSchur.f k t364).bind fun t367 => ((laws_eqIntS.f k t367 t361).bind fun t370 => (if t370 = true then ((laws_toIntS.f k l0).bind fun t371 => ((laws_eqIntS.f k t364 t371).bind fun t374 => (if t374 = true then ((laws_markIntS.f k t364 1).bind fun bt375 => (if bt375.1 < 0 then (laws_FnExactMonomialOfSchur.j0 k l0 t361 t367 true) else ((laws_eqIntS.f k t367 t361).bind fun t377 => (laws_FnExactMonomialOfSchur.j0 k l0 t361 t367 (!t377))))) else (some false)))) else (some false)))) = some r := H
  have A5 := Aside0.mk A50
  clear A50
  replace H := Option.bind_eq_some_iff.mp H
  obtain ⟨t367, A60, H⟩ := H
  replace H : ((laws_eqIntS.f k t367 t361).bind fun t370 => (if t370 = true then ((laws_toIntS.f k l0).bind fun t371 => ((laws_eqIntS.f k t364 t371).bind fun t374 => (if t374 = true then ((laws_markIntS.f k t364 1).bind fun bt375 => (if bt375.1 < 0 then (laws_FnExactMonomialOfSchur.j0 k l0 t361 t367 true) else ((laws_eqIntS.f k t367 t361).bind fun t377 => (laws_FnExactMonomialOfSchur.j0 k l0 t361 t367 (!t377))))) else (some false)))) else (some false))) = some r := H
  have A6 := Aside0.mk A60
  clear A60
  replace H := Option.bind_eq_some_iff.mp H
  obtain ⟨t370, A70, H⟩ := H
  replace H : (if t370 = true then ((laws_toIntS.f k l0).bind fun t371 => ((laws_eqIntS.f k t364 t371).bind fun t374 => (if t374 = true then ((laws_markIntS.f k t364 1).bind fun bt375 => (if bt375.1 < 0 then (laws_FnExactMonomialOfSchur.j0 k l0 t361 t367 true) else ((laws_eqIntS.f k t367 t361).bind fun t377 => (laws_FnExactMonomialOfSchur.j0 k l0 t361 t367 (!t377))))) else (some false)))) else (some false)) = some r := H
  have A7 := Aside0.mk A70
  clear A70
  by_cases c8 : t370 = true
  ·
   subst c8
   have H1 : ((laws_toIntS.f k l0).bind fun t371 => ((laws_eqIntS.f k t364 t371).bind fun t374 => (if t374 = true then ((laws_markIntS.f k t364 1).bind fun bt375 => (if bt375.1 < 0 then (laws_FnExactMonomialOfSchur.j0 k l0 t361 t367 true) else ((laws_eqIntS.f k t367 t361).bind fun t377 => (laws_FnExactMonomialOfSchur.j0 k l0 t361 t367 (!t377))))) else (some false)))) = some r := by rw [if_pos rfl] at H; exact H
   clear H
   have H := H1
   clear H1
   replace H := Option.bind_eq_some_iff.mp H
   obtain ⟨t371, A90, H⟩ := H
   replace H : ((laws_eqIntS.f k t364 t371).bind fun t374 => (if t374 = true then ((laws_markIntS.f k t364 1).bind fun bt375 => (if bt375.1 < 0 then (laws_FnExactMonomialOfSchur.j0 k l0 t361 t367 true) else ((laws_eqIntS.f k t367 t361).bind fun t377 => (laws_FnExactMonomialOfSchur.j0 k l0 t361 t367 (!t377))))) else (some false))) = some r := H
   have A9 := Aside0.mk A90
   clear A90
   replace H := Option.bind_eq_some_iff.mp H
   obtain ⟨t374, A100, H⟩ := H
   replace H : (if t374 = true then ((laws_markIntS.f k t364 1).bind fun bt375 => (if bt375.1 < 0 then (laws_FnExactMonomialOfSchur.j0 k l0 t361 t367 true) else ((laws_eqIntS.f k t367 t361).bind fun t377 => (laws_FnExactMonomialOfSchur.j0 k l0 t361 t367 (!t377))))) else (some false)) = some r := H
   have A10 := Aside0.mk A100
   clear A100
   by_cases c11 : t374 = true
   ·
    subst c11
    have H1 : ((laws_markIntS.f k t364 1).bind fun bt375 => (if bt375.1 < 0 then (laws_FnExactMonomialOfSchur.j0 k l0 t361 t367 true) else ((laws_eqIntS.f k t367 t361).bind fun t377 => (laws_FnExactMonomialOfSchur.j0 k l0 t361 t367 (!t377))))) = some r := by rw [if_pos rfl] at H; exact H
    clear H
    have H := H1
    clear H1
    replace H := Option.bind_eq_some_iff.mp H
    obtain ⟨⟨t375, t376⟩, A120, H⟩ := H
    replace H : (if t375 < 0 then (laws_FnExactMonomialOfSchur.j0 k l0 t361 t367 true) else ((laws_eqIntS.f k t367 t361).bind fun t377 => (laws_FnExactMonomialOfSchur.j0 k l0 t361 t367 (!t377)))) = some r := H
    have A12 := Aside0.mk A120
    clear A120
    have HC13 := Aside0.mk H
    clear H
    go_enter Tryz.func5, Tryz.ntmps5
    go_upto_region 12 with (first | ((with_reducible refine gate_callee (f := 29) rfl ?_); refine goesL_ (some 14) rfl rfl Tryz.func29 (by kernel_rfl) rfl #[.slice A0 l0.length c0] rfl (by (try simp only [List.map_toArray, List.map_cons, List.map_nil]); first | done | rfl | (simp only [List.length_drop, List.length_take]; rfl)) ?_; (with_reducible refine (laws_toIntS.calls k _ _ l0 t358 _ ?side1 ?side2 A3.out).mono ?_); (case side1 => repeat (first | exact HR0.out | (with_reducible refine Kd.C_alloc ?_ _) | (with_reducible refine Kd.C_drewN ?_ _) | (with_reducible refine Kd.C_drew ?_))); (case side2 => exact HC0.out); rintro e w14 ⟨v359, rfl, ho0, hb⟩; refine ⟨_, rfl, ?_⟩; have n0_ := Aside0.mk (Kd.R_lower ho0 (below_size (by repeat (first | (with_reducible first | exact HB.out | apply below_alloc | apply pw_below_drewN | apply below_drew1) | exact HB.out)))); have n1_ := Aside0.mk (below_step (by repeat (first | (with_reducible first | exact HB.out | apply below_alloc | apply pw_below_drewN | apply below_drew1) | exact HB.out)) hb); clear HB; have HO360 := n0_; have HB := n1_; clear n0_ n1_; (try clear hb); (try clear hb2); (try clear hk); (try clear hi); (try clear ho0); obtain ⟨Ao15, co15, eo15⟩ := Kd.R_slice HO360.out; subst eo15) | ((with_reducible refine gate_callee (f := 28) rfl ?_); refine goesL_ (some 15) rfl rfl Tryz.func28 (by kernel_rfl) rfl #[.slice Ao15 t358.length co15] rfl (by (try simp only [List.map_toArray, List.map_cons, List.map_nil]); first | done | rfl | (simp only [List.length_drop, List.length_take]; rfl)) ?_; (with_reducible refine (spec_MonomialOfSchur.calls k _ _ t358 t361 _ ?side1 ?side2 A4.out).mono ?_); (case side1 => repeat (first | exact (Kd.R_reads' HO360.out).2.2 | (with_reducible refine Kd.C_alloc ?_ _) | (with_reducible refine Kd.C_drewN ?_ _) | (with_reducible refine Kd.C_drew ?_))); (case side2 => exact (Kd.R_reads' HO360.out).2.1); rintro e w16 ⟨v362, rfl, ho0, hb⟩; refine ⟨_, rfl, ?_⟩; have n0_ := Aside0.mk (Kd.R_elder' (by (with_reducible repeat (first | apply Kd.R_alloc | apply Kd.R_drewN | apply Kd.R_drew)); exact HO360.out) (Kd.R_base ho0) hb); have n1_ := Aside0.mk (Kd.R_lower (Kd.R_new' ho0 (Kd.R_lt (by (with_reducible repeat (first | apply Kd.R_alloc | apply Kd.R_drewN | apply Kd.R_drew)); exact HO360.out))) (below_size (by repeat (first | (with_reducible first | exact HB.out | apply below_alloc | apply pw_below_drewN | apply below_drew1) | exact HB.out)))); have n2_ := Aside0.mk (below_step (by repeat (first | (with_reducible first | exact HB.out | apply below_alloc | apply pw_below_drewN | apply below_drew1) | exact HB.out)) hb); clear HO360; clear HB; have HO360 := n0_; have HO363 := n1_; have HB := n2_; clear n0_ n1_ n2_; (try clear hb); (try clear hb2); (try clear hk); (try clear hi); (try clear ho0)) | ((with_reducible refine gate_callee (f := 29) rfl ?_); refine goesL_ (some 17) rfl rfl Tryz.func29 (by kernel_rfl) rfl #[.slice A0 l0.length c0] rfl (by (try simp only [List.map_toArray, List.map_cons, List.map_nil]); first | done | rfl | (simp only [List.length_drop, List.length_take]; rfl)) ?_; (with_reducible refine (laws_toIntS.calls k _ _ l0 t364 _ ?side1 ?side2 A5.out).mono ?_); (case side1 => repeat (first | exact (Kd.C_below HR0.out HB.out) | (with_reducible refine Kd.C_alloc ?_ _) | (with_reducible refine Kd.C_drewN ?_ _) | (with_reducible refine Kd.C_drew ?_))); (case side2 => exact HC0.out); rintro e w17 ⟨v365, rfl, ho0, hb⟩; refine ⟨_, rfl, ?_⟩; have n0_ := Aside0.mk (Kd.R_elder' (by (with_reducible repeat (first | apply Kd.R_alloc | apply Kd.R_drewN | apply Kd.R_drew)); exact HO360.out) (Kd.R_base ho0) hb); have n1_ := Aside0.mk (Kd.R_elder' (by (with_reducible repeat (first | apply Kd.R_alloc | apply Kd.R_drewN | apply Kd.R_drew)); exact HO363.out) (Kd.R_base ho0) hb); have n2_ := Aside0.mk (Kd.R_lower (Kd.R_new' (Kd.R_new' ho0 (Kd.R_lt (by (with_reducible repeat (first | apply Kd.R_alloc | apply Kd.R_drewN | apply Kd.R_drew)); exact HO360.out))) (Kd.R_lt (by (with_reducible repeat (first | apply Kd.R_alloc | apply Kd.R_drewN | apply Kd.R_drew)); exact HO363.out))) (below_size (by repeat (first | (with_reducible first | exact HB.out | apply below_alloc | apply pw_below_drewN | apply below_drew1) | exact HB.out)))); have n3_ := Aside0.mk (below_step (by repeat (first | (with_reducible first | exact HB.out | apply below_alloc | apply pw_below_drewN | apply below_drew1) | exact HB.out)) hb); clear HO360; clear HO363; clear HB; have HO360 := n0_; have HO363 := n1_; have HO366 := n2_; have HB := n3_; clear n0_ n1_ n2_ n3_; (try clear hb); (try clear hb2); (try clear hk); (try clear hi); (try clear ho0); obtain ⟨Ao18, co18, eo18⟩ := Kd.R_slice HO366.out; subst eo18) | ((with_reducible refine gate_callee (f := 30) rfl ?_); refine goesL_ (some 19) rfl rfl Tryz.func30 (by kernel_rfl) rfl #[.slice Ao18 t364.length co18] rfl (by (try simp only [List.map_toArray, List.map_cons, List.map_nil]); first | done | rfl | (simp only [List.length_drop, List.length_take]; rfl)) ?_; (with_reducible refine (impl_MonomialOfSchur.calls k _ _ t364 t367 _ ?side1 ?side2 A6.out).mono ?_); (case side1 => repeat (first | exact (Kd.R_reads' HO366.out).2.2 | (with_reducible refine Kd.C_alloc ?_ _) | (with_reducible refine Kd.C_drewN ?_ _) | (with_reducible refine Kd.C_drew ?_))); (case side2 => exact (Kd.R_reads' HO366.out).2.1); rintro e w19 ⟨v368, rfl, ho0, hb⟩; refine ⟨_, rfl, ?_⟩; have n0_ := Aside0.mk (Kd.R_elder' (by (with_reducible repeat (first | apply Kd.R_alloc | apply Kd.R_drewN | apply Kd.R_drew)); exact HO360.out) (Kd.R_base ho0) hb); have n1_ := Aside0.mk (Kd.R_elder' (by (with_reducible repeat (first | apply Kd.R_alloc | apply Kd.R_drewN | apply Kd.R_drew)); exact HO363.out) (Kd.R_base ho0) hb); have n2_ := Aside0.mk (Kd.R_elder' (by (with_reducible repeat (first | apply Kd.R_alloc | apply Kd.R_drewN | apply Kd.R_drew)); exact HO366.out) (Kd.R_base ho0) hb); have n3_ := Aside0.mk (Kd.R_lower (Kd.R_new' (Kd.R_new' (Kd.R_new' ho0 (Kd.R_lt (by (with_reducible repeat (first | apply Kd.R_alloc | apply Kd.R_drewN | apply Kd.R_drew)); exact HO360.out))) (Kd.R_lt (by (with_reducible repeat (first | apply Kd.R_alloc | apply Kd.R_drewN | apply Kd.R_drew)); exact HO363.out))) (Kd.R_lt (by (with_reducible repeat (first | apply Kd.R_alloc | apply Kd.R_drewN | apply Kd.R_drew)); exact HO366.out))) (below_size (by repeat (first | (with_reducible first | exact HB.out | apply below_alloc | apply pw_below_drewN | apply below_drew1) | exact HB.out)))); have n4_ := Aside0.mk (below_step (by repeat (first | (with_reducible first | exact HB.out | apply below_alloc | apply pw_below_drewN | apply below_drew1) | exact HB.out)) hb); clear HO360; clear HO363; clear HO366; clear HB; have HO360 := n0_; have HO363 := n1_; have HO366 := n2_; have HO369 := n3_; have HB := n4_; clear n0_ n1_ n2_ n3_ n4_; (try clear hb); (try clear hb2); (try clear hk); (try clear hi); (try clear ho0); obtain ⟨Ao20, co20, eo20⟩ := Kd.R_slice HO369.out; subst eo20; obtain ⟨Ao21, co21, eo21⟩ := Kd.R_slice HO363.out; subst eo21) | ((with_reducible refine gate_callee (f := 31) rfl ?_); refine goesL_ (some 22) rfl rfl Tryz.func31 (by kernel_rfl) rfl #[.slice Ao20 t367.length co20, .slice Ao21 t361.length co21] rfl (by (try simp only [List.map_toArray, List.map_cons, List.map_nil]); first | done | rfl | (simp only [List.length_drop, List.length_take]; rfl)) ?_; (with_reducible refine (laws_eqIntS.calls k _ _ t367 _ _ t361 true _ ?side1 ?side2 ?side3 ?side4 A7.out).mono ?_); (case side1 => repeat (first | exact (Kd.R_reads' HO369.out).2.2 | (with_reducible refine Kd.C_alloc ?_ _) | (with_reducible refine Kd.C_drewN ?_ _) | (with_reducible refine Kd.C_drew ?_))); (case side2 => exact (Kd.R_reads' HO369.out).2.1); (case side3 => repeat (first | exact (Kd.R_reads' HO363.out).2.2 | (with_reducible refine Kd.C_alloc ?_ _) | (with_reducible refine Kd.C_drewN ?_ _) | (with_reducible refine Kd.C_drew ?_))); (case side4 => exact (Kd.R_reads' HO363.out).2.1); rintro e w' ⟨rfl, ⟨nd, rfl⟩⟩; refine ⟨_, rfl, ?_⟩) | ((with_reducible refine gate_callee (f := 29) rfl ?_); refine goesL_ (some 26) rfl rfl Tryz.func29 (by kernel_rfl) rfl #[.slice A0 l0.length c0] rfl (by (try simp only [List.map_toArray, List.map_cons, List.map_nil]); first | done | rfl | (simp only [List.length_drop, List.length_take]; rfl)) ?_; (with_reducible refine (laws_toIntS.calls k _ _ l0 t371 _ ?side1 ?side2 A9.out).mono ?_); (case side1 => repeat (first | exact (Kd.C_below HR0.out (by repeat (first | (with_reducible first | exact HB.out | apply below_alloc | apply pw_below_drewN | apply below_drew1) | exact HB.out))) | (with_reducible refine Kd.C_alloc ?_ _) | (with_reducible refine Kd.C_drewN ?_ _) | (with_reducible refine Kd.C_drew ?_))); (case side2 => exact HC0.out); rintro e w22 ⟨v372, rfl, ho0, hb⟩; refine ⟨_, rfl, ?_⟩; have n0_ := Aside0.mk (Kd.R_elder' (by (with_reducible repeat (first | apply Kd.R_alloc | apply Kd.R_drewN | apply Kd.R_drew)); exact HO360.out) (Kd.R_base ho0) hb); have n1_ := Aside0.mk (Kd.R_elder' (by (with_reducible repeat (first | apply Kd.R_alloc | apply Kd.R_drewN | apply Kd.R_drew)); exact HO363.out) (Kd.R_base ho0) hb); have n2_ := Aside0.mk (Kd.R_elder' (by (with_reducible repeat (first | apply Kd.R_alloc | apply Kd.R_drewN | apply Kd.R_drew)); exact HO366.out) (Kd.R_base ho0) hb); have n3_ := Aside0.mk (Kd.R_elder' (by (with_reducible repeat (first | apply Kd.R_alloc | apply Kd.R_drewN | apply Kd.R_drew)); exact HO369.out) (Kd.R_base ho0) hb); have n4_ := Aside0.mk (Kd.R_lower (Kd.R_new' (Kd.R_new' (Kd.R_new' (Kd.R_new' ho0 (Kd.R_lt (by (with_reducible repeat (first | apply Kd.R_alloc | apply Kd.R_drewN | apply Kd.R_drew)); exact HO360.out))) (Kd.R_lt (by (with_reducible repeat (first | apply Kd.R_alloc | apply Kd.R_drewN | apply Kd.R_drew)); exact HO363.out))) (Kd.R_lt (by (with_reducible repeat (first | apply Kd.R_alloc | apply Kd.R_drewN | apply Kd.R_drew)); exact HO366.out))) (Kd.R_lt (by (with_reducible repeat (first | apply Kd.R_alloc | apply Kd.R_drewN | apply Kd.R_drew)); exact HO369.out))) (below_size (by repeat (first | (with_reducible first | exact HB.out | apply below_alloc | apply pw_below_drewN | apply below_drew1) | exact HB.out)))); have n5_ := Aside0.mk (below_step (by repeat (first | (with_reducible first | exact HB.out | apply below_alloc | apply pw_below_drewN | apply below_drew1) | exact HB.out)) hb); clear HO360; clear HO363; clear HO366; clear HO369; clear HB; have HO360 := n0_; have HO363 := n1_; have HO366 := n2_; have HO369 := n3_; have HO373 := n4_; have HB := n5_; clear n0_ n1_ n2_ n3_ n4_ n5_; (try clear hb); (try clear hb2); (try clear hk); (try clear hi); (try clear ho0); obtain ⟨Ao23, co23, eo23⟩ := Kd.R_slice HO373.out; subst eo23) | ((with_reducible refine gate_callee (f := 31) rfl ?_); refine goesL_ (some 27) rfl rfl Tryz.func31 (by kernel_rfl) rfl #[.slice Ao18 t364.length co18, .slice Ao23 t371.length co23] rfl (by (try simp only [List.map_toArray, List.map_cons, List.map_nil]); first | done | rfl | (simp only [List.length_drop, List.length_take]; rfl)) ?_; (with_reducible refine (laws_eqIntS.calls k _ _ t364 _ _ t371 true _ ?side1 ?side2 ?side3 ?side4 A10.out).mono ?_); (case side1 => repeat (first | exact (Kd.R_reads' HO366.out).2.2 | (with_reducible refine Kd.C_alloc ?_ _) | (with_reducible refine Kd.C_drewN ?_ _) | (with_reducible refine Kd.C_drew ?_))); (case side2 => exact (Kd.R_reads' HO366.out).2.1); (case side3 => repeat (first | exact (Kd.R_reads' HO373.out).2.2 | (with_reducible refine Kd.C_alloc ?_ _) | (with_reducible refine Kd.C_drewN ?_ _) | (with_reducible refine Kd.C_drew ?_))); (case side4 => exact (Kd.R_reads' HO373.out).2.1); rintro e w' ⟨rfl, ⟨nd, rfl⟩⟩; refine ⟨_, rfl, ?_⟩) | ((with_reducible refine gate_callee (f := 32) rfl ?_); refine goesL_ (some 31) rfl rfl Tryz.func32 (by kernel_rfl) rfl #[.slice Ao18 t364.length co18, .int .i64 1] rfl (by (try simp only [List.map_toArray, List.map_cons, List.map_nil]); first | done | rfl | (simp only [List.length_drop, List.length_take]; rfl)) ?_; (with_reducible refine (laws_markIntS.calls k (fun k_ => some k_ = (.slice Ao18 t364.length co18 : Value).ownBlock) (.slice Ao18 t364.length co18) t364 1 t375 t376 w _ ?side1 ?side2 A12.out).mono ?_); (case side1 => repeat (first | (with_reducible first | exact HB.out | apply below_alloc | apply pw_below_drewN | apply below_drew1) | exact HB.out)); (case side2 => exact Kd.R_tight rfl HO366.out); rintro e w24 ⟨rfl, hy0, hb, hkp⟩; refine ⟨_, rfl, ?_⟩; have n0_ := Aside0.mk (Kd.R_mono (ok' := fun k_ => some k_ ≠ (.slice Ao21 t361.length co21 : Value).ownBlock ∧ some k_ ≠ (.slice Ao18 t364.length co18 : Value).ownBlock ∧ some k_ ≠ (.slice Ao20 t367.length co20 : Value).ownBlock ∧ some k_ ≠ (.slice Ao23 t371.length co23 : Value).ownBlock) (Kd.R_keptB (HO360.out) hkp (fun k_ hk_ hs_ => (hk_.1.1.2) hs_)) (fun k_ hk_ => ⟨hk_.1.1.1.1.2, hk_.1.1.1.2, hk_.1.1.2, hk_.1.2⟩)); have n1_ := Aside0.mk (Kd.R_mono (ok' := fun k_ => some k_ ≠ (.slice Ao15 t358.length co15 : Value).ownBlock ∧ some k_ ≠ (.slice Ao18 t364.length co18 : Value).ownBlock ∧ some k_ ≠ (.slice Ao20 t367.length co20 : Value).ownBlock ∧ some k_ ≠ (.slice Ao23 t371.length co23 : Value).ownBlock) (Kd.R_keptB (HO363.out) hkp (fun k_ hk_ hs_ => (hk_.1.1.2) hs_)) (fun k_ hk_ => ⟨hk_.1.1.1.1.2, hk_.1.1.1.2, hk_.1.1.2, hk_.1.2⟩)); have n2_ := Aside0.mk (Kd.R_reok rfl hy0 (fun k_ e_ => HO366.out.1 k_ e_)); have n3_ := Aside0.mk (Kd.R_mono (ok' := fun k_ => some k_ ≠ (.slice Ao15 t358.length co15 : Value).ownBlock ∧ some k_ ≠ (.slice Ao21 t361.length co21 : Value).ownBlock ∧ some k_ ≠ (.slice Ao18 t364.length co18 : Value).ownBlock ∧ some k_ ≠ (.slice Ao23 t371.length co23 : Value).ownBlock) (Kd.R_keptB (HO369.out) hkp (fun k_ hk_ hs_ => (hk_.1.2) hs_)) (fun k_ hk_ => ⟨hk_.1.1.1.1.2, hk_.1.1.1.2, hk_.1.1.2, hk_.1.2⟩)); have n4_ := Aside0.mk (Kd.R_mono (ok' := fun k_ => some k_ ≠ (.slice Ao15 t358.length co15 : Value).ownBlock ∧ some k_ ≠ (.slice Ao21 t361.length co21 : Value).ownBlock ∧ some k_ ≠ (.slice Ao18 t364.length co18 : Value).ownBlock ∧ some k_ ≠ (.slice Ao20 t367.length co20 : Value).ownBlock) (Kd.R_keptB (HO373.out) hkp (fun k_ hk_ hs_ => (hk_.1.2) hs_)) (fun k_ hk_ => ⟨hk_.1.1.1.1.2, hk_.1.1.1.2, hk_.1.1.2, hk_.1.2⟩)); have n5_ := Aside0.mk (hb); clear HO360; clear HO363; clear HO366; clear HO369; clear HO373; clear HB; have HO360 := n0_; have HO363 := n1_; have HO366 := n2_; have HO369 := n3_; have HO373 := n4_; have HB := n5_; clear n0_ n1_ n2_ n3_ n4_ n5_; (try clear hb); (try clear hkp); (try clear hy0)))
    (try simp only [Act.put, List.setIfInBounds_toArray, List.set_cons_zero, List.set_cons_succ])
    go_cut [39] (fun v39 wc => ∃ (kq : Nat) (x39_12 : Bool), v39 = .bool x39_12 ∧ Aside0 (laws_FnExactMonomialOfSchur.j0 kq l0 t361 t367 x39_12 = some r) ∧ Aside0 (kq ≤ k) ∧ Aside0 (Kd.R (Kd.int .i64) 3 wc w.heap.size (fun k_ => some k_ ≠ ((.slice Ao20 t367.length co20) : Value).ownBlock) (.slice Ao21 t361.length co21) t361) ∧ Aside0 (Kd.R (Kd.int .i64) 3 wc w.heap.size (fun k_ => some k_ ≠ ((.slice Ao21 t361.length co21) : Value).ownBlock) (.slice Ao20 t367.length co20) t367) ∧ Aside0 (Below w.heap.size w wc))
    case first =>
     have H := HC13.out
     clear HC13
     by_cases c25 : t375 < 0
     ·
      rw [if_pos c25] at H
      have c25b0 : decide (t375 < 0) = true := decide_eq_true c25
      clear c25
      (first | rw [c25b0] | (simp only [i64_w, i32_w]; rw [c25b0]) | skip)
      have H' := Aside0.mk H
      clear H
      go_wp2
      go_meet
      case rel => exact ⟨_, (true), (by first | rfl | (simp; done) | (simp [*]; done)), H', ⟨by first | omega | exact Nat.le_refl _⟩, ⟨by (with_reducible repeat (first | apply Kd.R_alloc | apply Kd.R_drewN | apply Kd.R_drew)); exact Kd.R_mono HO363.out (fun _ hk => hk.2.2.1)⟩, ⟨by (with_reducible repeat (first | apply Kd.R_alloc | apply Kd.R_drewN | apply Kd.R_drew)); exact Kd.R_mono HO369.out (fun _ hk => hk.2.1)⟩, ⟨by repeat (first | (with_reducible first | exact HB.out | apply below_alloc | apply pw_below_drewN | apply below_drew1) | exact HB.out)⟩⟩
     ·
      rw [if_neg c25] at H
      have c25b0 : decide (t375 < 0) = false := decide_eq_false c25
      clear c25
      (first | rw [c25b0] | (simp only [i64_w, i32_w]; rw [c25b0]) | skip)
      replace H := Option.bind_eq_some_iff.mp H
      obtain ⟨t377, A260, H⟩ := H
      replace H : (laws_FnExactMonomialOfSchur.j0 k l0 t361 t367 (!t377)) = some r := H
      have A26 := Aside0.mk A260
      clear A260
      have H' := Aside0.mk H
      clear H
      go_wp2_with (first | (go_at_call 31; (with_reducible refine (laws_eqIntS.calls k _ _ t367 _ _ t361 t377 _ ?side1 ?side2 ?side3 ?side4 A26.out).mono ?_); (case side1 => repeat (first | exact (Kd.R_reads' HO369.out).2.2 | (with_reducible refine Kd.C_alloc ?_ _) | (with_reducible refine Kd.C_drewN ?_ _) | (with_reducible refine Kd.C_drew ?_))); (case side2 => exact (Kd.R_reads' HO369.out).2.1); (case side3 => repeat (first | exact (Kd.R_reads' HO363.out).2.2 | (with_reducible refine Kd.C_alloc ?_ _) | (with_reducible refine Kd.C_drewN ?_ _) | (with_reducible refine Kd.C_drew ?_))); (case side4 => exact (Kd.R_reads' HO363.out).2.1); rintro e w' ⟨rfl, ⟨nd, rfl⟩⟩))
      go_meet
      case rel => exact ⟨_, (!t377), (by first | rfl | (simp; done) | (simp [*]; done)), H', ⟨by first | omega | exact Nat.le_refl _⟩, ⟨by (with_reducible repeat (first | apply Kd.R_alloc | apply Kd.R_drewN | apply Kd.R_drew)); exact Kd.R_mono HO363.out (fun _ hk => hk.2.2.1)⟩, ⟨by (with_reducible repeat (first | apply Kd.R_alloc | apply Kd.R_drewN | apply Kd.R_drew)); exact Kd.R_mono HO369.out (fun _ hk => hk.2.1)⟩, ⟨by repeat (first | (with_reducible first | exact HB.out | apply below_alloc | apply pw_below_drewN | apply below_drew1) | exact HB.out)⟩⟩
    case rest =>
     clear HC13
     try clear c1
     try clear c2
     try clear c2b0
     try clear c2b1
     try clear p2
     try clear c3
     try clear c5
     try clear c8
     try clear c11
     try clear c25
     try clear c25b0
     obtain ⟨kq, x39_12, rfl, HA, HJ12, HO_3, HO_5, HB⟩ := hcut
     cases kq with
     | zero => exact absurd HA.out (by simp [laws_FnExactMonomialOfSchur.j0])
     | succ kj12 =>
      have H := HA.out
      clear HA
      simp only [laws_FnExactMonomialOfSchur.j0] at H
      by_cases c27 : x39_12 = true
      ·
       subst c27
       have H1 : (some false) = some r := by rw [if_pos rfl] at H; exact H
       clear H
       have H := H1
       clear H1
       exact absurd ((Option.some.inj H).trans hT) (by decide)
      ·
       replace c27 := Bool.eq_false_iff.mpr c27
       subst c27
       have H1 : ((laws_markIntS.f kj12 t367 1).bind fun bt378 => ((laws_heldIntS.f kj12 bt378.2 1).bind fun t380 => (if t380 < 0 then (some false) else (if t380 = bt378.1 then ((laws_toIntS.f kj12 l0).bind fun t381 => ((impl_MonomialOfSchur.f kj12 t381).bind fun t384 => ((laws_eqIntS.f kj12 t384 t361).bind fun t387 => (if t387 = true then ((laws_heldIntS.f kj12 bt378.2 1).bind fun t388 => (if t388 < 0 then (some false) else (if t388 = bt378.1 then (some true) else (some false)))) else (some false))))) else (some false))))) = some r := by rw [if_neg (show ¬ (false = true) by decide)] at H; exact H
       clear H
       have H := H1
       clear H1
       replace H := Option.bind_eq_some_iff.mp H
       obtain ⟨⟨t378, t379⟩, A280, H⟩ := H
       replace H : ((laws_heldIntS.f kj12 t379 1).bind fun t380 => (if t380 < 0 then (some false) else (if t380 = t378 then ((laws_toIntS.f kj12 l0).bind fun t381 => ((impl_MonomialOfSchur.f kj12 t381).bind fun t384 => ((laws_eqIntS.f kj12 t384 t361).bind fun t387 => (if t387 = true then ((laws_heldIntS.f kj12 t379 1).bind fun t388 => (if t388 < 0 then (some false) else (if t388 = t378 then (some true) else (some false)))) else (some false))))) else (some false)))) = some r := H
       have A28 := Aside0.mk A280
       clear A280
       replace H := Option.bind_eq_some_iff.mp H
       obtain ⟨t380, A290, H⟩ := H
       replace H : (if t380 < 0 then (some false) else (if t380 = t378 then ((laws_toIntS.f kj12 l0).bind fun t381 => ((impl_MonomialOfSchur.f kj12 t381).bind fun t384 => ((laws_eqIntS.f kj12 t384 t361).bind fun t387 => (if t387 = true then ((laws_heldIntS.f kj12 t379 1).bind fun t388 => (if t388 < 0 then (some false) else (if t388 = t378 then (some true) else (some false)))) else (some false))))) else (some false))) = some r := H
       have A29 := Aside0.mk A290
       clear A290
       by_cases c30 : t380 < 0
       ·
        rw [if_pos c30] at H
        have c30b0 : decide (t380 < 0) = true := decide_eq_true c30
        clear c30
        obtain rfl := Option.some.inj H
        go_wp2_with (first | ((with_reducible refine gate_callee (f := 32) rfl ?_); refine goesL_ (some 42) rfl rfl Tryz.func32 (by kernel_rfl) rfl #[.slice Ao20 t367.length co20, .int .i64 1] rfl (by (try simp only [List.map_toArray, List.map_cons, List.map_nil]); first | done | rfl | (simp only [List.length_drop, List.length_take]; rfl)) ?_; (with_reducible refine (laws_markIntS.calls kj12 (fun k_ => some k_ = (.slice Ao20 t367.length co20 : Value).ownBlock) (.slice Ao20 t367.length co20) t367 1 t378 t379 w _ ?side1 ?side2 A28.out).mono ?_); (case side1 => repeat (first | (with_reducible first | exact HB.out | apply below_alloc | apply pw_below_drewN | apply below_drew1) | exact HB.out)); (case side2 => exact Kd.R_tight rfl HO_5.out); rintro e w31 ⟨rfl, hy0, hb, hkp⟩; refine ⟨_, rfl, ?_⟩; have n0_ := Aside0.mk (Kd.R_mono (ok' := fun k_ => some k_ ≠ (.slice Ao20 t367.length co20 : Value).ownBlock) (Kd.R_keptB (HO_3.out) hkp (fun k_ hk_ hs_ => (hk_) hs_)) (fun k_ hk_ => hk_.1)); have n1_ := Aside0.mk (Kd.R_reok rfl hy0 (fun k_ e_ => HO_5.out.1 k_ e_)); have n2_ := Aside0.mk (hb); clear HO_3; clear HO_5; clear HB; have HO_3 := n0_; have HO_5 := n1_; have HB := n2_; clear n0_ n1_ n2_; (try clear hb); (try clear hkp); (try clear hy0)) | ((with_reducible refine gate_callee (f := 33) rfl ?_); refine goesL_ (some 45) rfl rfl Tryz.func33 (by kernel_rfl) rfl #[.slice Ao20 t379.length co20, .int .i64 1] rfl (by (try simp only [List.map_toArray, List.map_cons, List.map_nil]); first | done | (rw [show t379.length = t367.length from (Kd.R_reads' HO_5.out).1.symm] <;> rfl) | rfl | (simp only [List.length_drop, List.length_take]; rfl)) ?_; (with_reducible refine (laws_heldIntS.calls kj12 _ _ t379 1 t380 _ ?side1 ?side2 A29.out).mono ?_); (case side1 => repeat (first | exact (Kd.R_reads' HO_5.out).2.2 | (with_reducible refine Kd.C_alloc ?_ _) | (with_reducible refine Kd.C_drewN ?_ _) | (with_reducible refine Kd.C_drew ?_))); (case side2 => rw [show t379.length = t367.length from (Kd.R_reads' HO_5.out).1.symm]; exact (Kd.R_reads' HO_5.out).2.1); rintro e w' ⟨rfl, ⟨nd, rfl⟩⟩; refine ⟨_, rfl, ?_⟩))
        go_ret
        exact ⟨by first | rfl | (simp [errW_none, errW_some] <;> rfl) | (simp [*, errW_none, errW_some] <;> rfl), by repeat (first | (with_reducible first | exact HB.out | apply below_alloc | apply pw_below_drewN | apply below_drew1) | exact HB.out)⟩
       ·
        rw [if_neg c30] at H
        have c30b0 : decide (t380 < 0) = false := decide_eq_false c30
        clear c30
        by_cases c32 : t380 = t378
        ·
         rw [if_pos c32] at H
         have c32b0 : (t380 == t378) = true := beq_iff_eq.mpr c32
         have c32b1 : (t380 != t378) = false := bne_eq_false_iff_eq.mpr c32
         clear c32
         replace H := Option.bind_eq_some_iff.mp H
         obtain ⟨t381, A330, H⟩ := H
         replace H : ((impl_MonomialOfSchur.f kj12 t381).bind fun t384 => ((laws_eqIntS.f kj12 t384 t361).bind fun t387 => (if t387 = true then ((laws_heldIntS.f kj12 t379 1).bind fun t388 => (if t388 < 0 then (some false) else (if t388 = t378 then (some true) else (some false)))) else (some false)))) = some r := H
         have A33 := Aside0.mk A330
         clear A330
         replace H := Option.bind_eq_some_iff.mp H
         obtain ⟨t384, A340, H⟩ := H
         replace H : ((laws_eqIntS.f kj12 t384 t361).bind fun t387 => (if t387 = true then ((laws_heldIntS.f kj12 t379 1).bind fun t388 => (if t388 < 0 then (some false) else (if t388 = t378 then (some true) else (some false)))) else (some false))) = some r := H
         have A34 := Aside0.mk A340
         clear A340
         replace H := Option.bind_eq_some_iff.mp H
         obtain ⟨t387, A350, H⟩ := H
         replace H : (if t387 = true then ((laws_heldIntS.f kj12 t379 1).bind fun t388 => (if t388 < 0 then (some false) else (if t388 = t378 then (some true) else (some false)))) else (some false)) = some r := H
         have A35 := Aside0.mk A350
         clear A350
         by_cases c36 : t387 = true
         ·
          subst c36
          have H1 : ((laws_heldIntS.f kj12 t379 1).bind fun t388 => (if t388 < 0 then (some false) else (if t388 = t378 then (some true) else (some false)))) = some r := by rw [if_pos rfl] at H; exact H
          clear H
          have H := H1
          clear H1
          replace H := Option.bind_eq_some_iff.mp H
          obtain ⟨t388, A370, H⟩ := H
          replace H : (if t388 < 0 then (some false) else (if t388 = t378 then (some true) else (some false))) = some r := H
          have A37 := Aside0.mk A370
          clear A370
          by_cases c38 : t388 < 0
          ·
           rw [if_pos c38] at H
           have c38b0 : decide (t388 < 0) = true := decide_eq_true c38
           clear c38
           obtain rfl := Option.some.inj H
           go_wp2_with (first | ((with_reducible refine gate_callee (f := 32) rfl ?_); refine goesL_ (some 42) rfl rfl Tryz.func32 (by kernel_rfl) rfl #[.slice Ao20 t367.length co20, .int .i64 1] rfl (by (try simp only [List.map_toArray, List.map_cons, List.map_nil]); first | done | rfl | (simp only [List.length_drop, List.length_take]; rfl)) ?_; (with_reducible refine (laws_markIntS.calls kj12 (fun k_ => some k_ = (.slice Ao20 t367.length co20 : Value).ownBlock) (.slice Ao20 t367.length co20) t367 1 t378 t379 w _ ?side1 ?side2 A28.out).mono ?_); (case side1 => repeat (first | (with_reducible first | exact HB.out | apply below_alloc | apply pw_below_drewN | apply below_drew1) | exact HB.out)); (case side2 => exact Kd.R_tight rfl HO_5.out); rintro e w39 ⟨rfl, hy0, hb, hkp⟩; refine ⟨_, rfl, ?_⟩; have n0_ := Aside0.mk (Kd.R_mono (ok' := fun k_ => some k_ ≠ (.slice Ao20 t367.length co20 : Value).ownBlock) (Kd.R_keptB (HO_3.out) hkp (fun k_ hk_ hs_ => (hk_) hs_)) (fun k_ hk_ => hk_.1)); have n1_ := Aside0.mk (Kd.R_reok rfl hy0 (fun k_ e_ => HO_5.out.1 k_ e_)); have n2_ := Aside0.mk (hb); clear HO_3; clear HO_5; clear HB; have HO_3 := n0_; have HO_5 := n1_; have HB := n2_; clear n0_ n1_ n2_; (try clear hb); (try clear hkp); (try clear hy0)) | ((with_reducible refine gate_callee (f := 33) rfl ?_); refine goesL_ (some 45) rfl rfl Tryz.func33 (by kernel_rfl) rfl #[.slice Ao20 t379.length co20, .int .i64 1] rfl (by (try simp only [List.map_toArray, List.map_cons, List.map_nil]); first | done | (rw [show t379.length = t367.length from (Kd.R_reads' HO_5.out).1.symm] <;> rfl) | rfl | (simp only [List.length_drop, List.length_take]; rfl)) ?_; (with_reducible refine (laws_heldIntS.calls kj12 _ _ t379 1 t380 _ ?side1 ?side2 A29.out).mono ?_); (case side1 => repeat (first | exact (Kd.R_reads' HO_5.out).2.2 | (with_reducible refine Kd.C_alloc ?_ _) | (with_reducible refine Kd.C_drewN ?_ _) | (with_reducible refine Kd.C_drew ?_))); (case side2 => rw [show t379.length = t367.length from (Kd.R_reads' HO_5.out).1.symm]; exact (Kd.R_reads' HO_5.out).2.1); rintro e w' ⟨rfl, ⟨nd, rfl⟩⟩; refine ⟨_, rfl, ?_⟩) | ((with_reducible refine gate_callee (f := 29) rfl ?_); refine goesL_ (some 52) rfl rfl Tryz.func29 (by kernel_rfl) rfl #[.slice A0 l0.length c0] rfl (by (try simp only [List.map_toArray, List.map_cons, List.map_nil]); first | done | rfl | (simp only [List.length_drop, List.length_take]; rfl)) ?_; (with_reducible refine (laws_toIntS.calls kj12 _ _ l0 t381 _ ?side1 ?side2 A33.out).mono ?_); (case side1 => repeat (first | exact (Kd.C_below HR0.out (by repeat (first | (with_reducible first | exact HB.out | apply below_alloc | apply pw_below_drewN | apply below_drew1) | exact HB.out))) | (with_reducible refine Kd.C_alloc ?_ _) | (with_reducible refine Kd.C_drewN ?_ _) | (with_reducible refine Kd.C_drew ?_))); (case side2 => exact HC0.out); rintro e w40 ⟨v382, rfl, ho0, hb⟩; refine ⟨_, rfl, ?_⟩; have n0_ := Aside0.mk (Kd.R_elder' (by (with_reducible repeat (first | apply Kd.R_alloc | apply Kd.R_drewN | apply Kd.R_drew)); exact HO_3.out) (Kd.R_base ho0) hb); have n1_ := Aside0.mk (Kd.R_elder' (by (with_reducible repeat (first | apply Kd.R_alloc | apply Kd.R_drewN | apply Kd.R_drew)); exact HO_5.out) (Kd.R_base ho0) hb); have n2_ := Aside0.mk (Kd.R_lower (Kd.R_new' (Kd.R_new' ho0 (Kd.R_lt (by (with_reducible repeat (first | apply Kd.R_alloc | apply Kd.R_drewN | apply Kd.R_drew)); exact HO_3.out))) (Kd.R_lt (by (with_reducible repeat (first | apply Kd.R_alloc | apply Kd.R_drewN | apply Kd.R_drew)); exact HO_5.out))) (below_size (by repeat (first | (with_reducible first | exact HB.out | apply below_alloc | apply pw_below_drewN | apply below_drew1) | exact HB.out)))); have n3_ := Aside0.mk (below_step (by repeat (first | (with_reducible first | exact HB.out | apply below_alloc | apply pw_below_drewN | apply below_drew1) | exact HB.out)) hb); clear HO_3; clear HO_5; clear HB; have HO_3 := n0_; have HO_5 := n1_; have HO383 := n2_; have HB := n3_; clear n0_ n1_ n2_ n3_; (try clear hb); (try clear hb2); (try clear hk); (try clear hi); (try clear ho0); obtain ⟨Ao41, co41, eo41⟩ := Kd.R_slice HO383.out; subst eo41) | ((with_reducible refine gate_callee (f := 30) rfl ?_); refine goesL_ (some 53) rfl rfl Tryz.func30 (by kernel_rfl) rfl #[.slice Ao41 t381.length co41] rfl (by (try simp only [List.map_toArray, List.map_cons, List.map_nil]); first | done | rfl | (simp only [List.length_drop, List.length_take]; rfl)) ?_; (with_reducible refine (impl_MonomialOfSchur.calls kj12 _ _ t381 t384 _ ?side1 ?side2 A34.out).mono ?_); (case side1 => repeat (first | exact (Kd.R_reads' HO383.out).2.2 | (with_reducible refine Kd.C_alloc ?_ _) | (with_reducible refine Kd.C_drewN ?_ _) | (with_reducible refine Kd.C_drew ?_))); (case side2 => exact (Kd.R_reads' HO383.out).2.1); rintro e w42 ⟨v385, rfl, ho0, hb⟩; refine ⟨_, rfl, ?_⟩; have n0_ := Aside0.mk (Kd.R_elder' (by (with_reducible repeat (first | apply Kd.R_alloc | apply Kd.R_drewN | apply Kd.R_drew)); exact HO_3.out) (Kd.R_base ho0) hb); have n1_ := Aside0.mk (Kd.R_elder' (by (with_reducible repeat (first | apply Kd.R_alloc | apply Kd.R_drewN | apply Kd.R_drew)); exact HO_5.out) (Kd.R_base ho0) hb); have n2_ := Aside0.mk (Kd.R_elder' (by (with_reducible repeat (first | apply Kd.R_alloc | apply Kd.R_drewN | apply Kd.R_drew)); exact HO383.out) (Kd.R_base ho0) hb); have n3_ := Aside0.mk (Kd.R_lower (Kd.R_new' (Kd.R_new' (Kd.R_new' ho0 (Kd.R_lt (by (with_reducible repeat (first | apply Kd.R_alloc | apply Kd.R_drewN | apply Kd.R_drew)); exact HO_3.out))) (Kd.R_lt (by (with_reducible repeat (first | apply Kd.R_alloc | apply Kd.R_drewN | apply Kd.R_drew)); exact HO_5.out))) (Kd.R_lt (by (with_reducible repeat (first | apply Kd.R_alloc | apply Kd.R_drewN | apply Kd.R_drew)); exact HO383.out))) (below_size (by repeat (first | (with_reducible first | exact HB.out | apply below_alloc | apply pw_below_drewN | apply below_drew1) | exact HB.out)))); have n4_ := Aside0.mk (below_step (by repeat (first | (with_reducible first | exact HB.out | apply below_alloc | apply pw_below_drewN | apply below_drew1) | exact HB.out)) hb); clear HO_3; clear HO_5; clear HO383; clear HB; have HO_3 := n0_; have HO_5 := n1_; have HO383 := n2_; have HO386 := n3_; have HB := n4_; clear n0_ n1_ n2_ n3_ n4_; (try clear hb); (try clear hb2); (try clear hk); (try clear hi); (try clear ho0); obtain ⟨Ao43, co43, eo43⟩ := Kd.R_slice HO386.out; subst eo43) | ((with_reducible refine gate_callee (f := 31) rfl ?_); refine goesL_ (some 56) rfl rfl Tryz.func31 (by kernel_rfl) rfl #[.slice Ao43 t384.length co43, .slice Ao21 t361.length co21] rfl (by (try simp only [List.map_toArray, List.map_cons, List.map_nil]); first | done | rfl | (simp only [List.length_drop, List.length_take]; rfl)) ?_; (with_reducible refine (laws_eqIntS.calls kj12 _ _ t384 _ _ t361 true _ ?side1 ?side2 ?side3 ?side4 A35.out).mono ?_); (case side1 => repeat (first | exact (Kd.R_reads' HO386.out).2.2 | (with_reducible refine Kd.C_alloc ?_ _) | (with_reducible refine Kd.C_drewN ?_ _) | (with_reducible refine Kd.C_drew ?_))); (case side2 => exact (Kd.R_reads' HO386.out).2.1); (case side3 => repeat (first | exact (Kd.R_reads' HO_3.out).2.2 | (with_reducible refine Kd.C_alloc ?_ _) | (with_reducible refine Kd.C_drewN ?_ _) | (with_reducible refine Kd.C_drew ?_))); (case side4 => exact (Kd.R_reads' HO_3.out).2.1); rintro e w' ⟨rfl, ⟨nd, rfl⟩⟩; refine ⟨_, rfl, ?_⟩) | ((with_reducible refine gate_callee (f := 33) rfl ?_); refine goesL_ (some 60) rfl rfl Tryz.func33 (by kernel_rfl) rfl #[.slice Ao20 t379.length co20, .int .i64 1] rfl (by (try simp only [List.map_toArray, List.map_cons, List.map_nil]); first | done | (rw [show t379.length = t367.length from (Kd.R_reads' HO_5.out).1.symm] <;> rfl) | rfl | (simp only [List.length_drop, List.length_take]; rfl)) ?_; (with_reducible refine (laws_heldIntS.calls kj12 _ _ t379 1 t388 _ ?side1 ?side2 A37.out).mono ?_); (case side1 => repeat (first | exact (Kd.R_reads' HO_5.out).2.2 | (with_reducible refine Kd.C_alloc ?_ _) | (with_reducible refine Kd.C_drewN ?_ _) | (with_reducible refine Kd.C_drew ?_))); (case side2 => rw [show t379.length = t367.length from (Kd.R_reads' HO_5.out).1.symm]; exact (Kd.R_reads' HO_5.out).2.1); rintro e w' ⟨rfl, ⟨nd, rfl⟩⟩; refine ⟨_, rfl, ?_⟩))
           go_ret
           exact ⟨by first | rfl | (simp [errW_none, errW_some] <;> rfl) | (simp [*, errW_none, errW_some] <;> rfl), by repeat (first | (with_reducible first | exact HB.out | apply below_alloc | apply pw_below_drewN | apply below_drew1) | exact HB.out)⟩
          ·
           rw [if_neg c38] at H
           have c38b0 : decide (t388 < 0) = false := decide_eq_false c38
           clear c38
           by_cases c44 : t388 = t378
           ·
            rw [if_pos c44] at H
            have c44b0 : (t388 == t378) = true := beq_iff_eq.mpr c44
            have c44b1 : (t388 != t378) = false := bne_eq_false_iff_eq.mpr c44
            clear c44
            obtain rfl := Option.some.inj H
            go_wp2_with (first | ((with_reducible refine gate_callee (f := 32) rfl ?_); refine goesL_ (some 42) rfl rfl Tryz.func32 (by kernel_rfl) rfl #[.slice Ao20 t367.length co20, .int .i64 1] rfl (by (try simp only [List.map_toArray, List.map_cons, List.map_nil]); first | done | rfl | (simp only [List.length_drop, List.length_take]; rfl)) ?_; (with_reducible refine (laws_markIntS.calls kj12 (fun k_ => some k_ = (.slice Ao20 t367.length co20 : Value).ownBlock) (.slice Ao20 t367.length co20) t367 1 t378 t379 w _ ?side1 ?side2 A28.out).mono ?_); (case side1 => repeat (first | (with_reducible first | exact HB.out | apply below_alloc | apply pw_below_drewN | apply below_drew1) | exact HB.out)); (case side2 => exact Kd.R_tight rfl HO_5.out); rintro e w45 ⟨rfl, hy0, hb, hkp⟩; refine ⟨_, rfl, ?_⟩; have n0_ := Aside0.mk (Kd.R_mono (ok' := fun k_ => some k_ ≠ (.slice Ao20 t367.length co20 : Value).ownBlock) (Kd.R_keptB (HO_3.out) hkp (fun k_ hk_ hs_ => (hk_) hs_)) (fun k_ hk_ => hk_.1)); have n1_ := Aside0.mk (Kd.R_reok rfl hy0 (fun k_ e_ => HO_5.out.1 k_ e_)); have n2_ := Aside0.mk (hb); clear HO_3; clear HO_5; clear HB; have HO_3 := n0_; have HO_5 := n1_; have HB := n2_; clear n0_ n1_ n2_; (try clear hb); (try clear hkp); (try clear hy0)) | ((with_reducible refine gate_callee (f := 33) rfl ?_); refine goesL_ (some 45) rfl rfl Tryz.func33 (by kernel_rfl) rfl #[.slice Ao20 t379.length co20, .int .i64 1] rfl (by (try simp only [List.map_toArray, List.map_cons, List.map_nil]); first | done | (rw [show t379.length = t367.length from (Kd.R_reads' HO_5.out).1.symm] <;> rfl) | rfl | (simp only [List.length_drop, List.length_take]; rfl)) ?_; (with_reducible refine (laws_heldIntS.calls kj12 _ _ t379 1 t380 _ ?side1 ?side2 A29.out).mono ?_); (case side1 => repeat (first | exact (Kd.R_reads' HO_5.out).2.2 | (with_reducible refine Kd.C_alloc ?_ _) | (with_reducible refine Kd.C_drewN ?_ _) | (with_reducible refine Kd.C_drew ?_))); (case side2 => rw [show t379.length = t367.length from (Kd.R_reads' HO_5.out).1.symm]; exact (Kd.R_reads' HO_5.out).2.1); rintro e w' ⟨rfl, ⟨nd, rfl⟩⟩; refine ⟨_, rfl, ?_⟩) | ((with_reducible refine gate_callee (f := 29) rfl ?_); refine goesL_ (some 52) rfl rfl Tryz.func29 (by kernel_rfl) rfl #[.slice A0 l0.length c0] rfl (by (try simp only [List.map_toArray, List.map_cons, List.map_nil]); first | done | rfl | (simp only [List.length_drop, List.length_take]; rfl)) ?_; (with_reducible refine (laws_toIntS.calls kj12 _ _ l0 t381 _ ?side1 ?side2 A33.out).mono ?_); (case side1 => repeat (first | exact (Kd.C_below HR0.out (by repeat (first | (with_reducible first | exact HB.out | apply below_alloc | apply pw_below_drewN | apply below_drew1) | exact HB.out))) | (with_reducible refine Kd.C_alloc ?_ _) | (with_reducible refine Kd.C_drewN ?_ _) | (with_reducible refine Kd.C_drew ?_))); (case side2 => exact HC0.out); rintro e w46 ⟨v382, rfl, ho0, hb⟩; refine ⟨_, rfl, ?_⟩; have n0_ := Aside0.mk (Kd.R_elder' (by (with_reducible repeat (first | apply Kd.R_alloc | apply Kd.R_drewN | apply Kd.R_drew)); exact HO_3.out) (Kd.R_base ho0) hb); have n1_ := Aside0.mk (Kd.R_elder' (by (with_reducible repeat (first | apply Kd.R_alloc | apply Kd.R_drewN | apply Kd.R_drew)); exact HO_5.out) (Kd.R_base ho0) hb); have n2_ := Aside0.mk (Kd.R_lower (Kd.R_new' (Kd.R_new' ho0 (Kd.R_lt (by (with_reducible repeat (first | apply Kd.R_alloc | apply Kd.R_drewN | apply Kd.R_drew)); exact HO_3.out))) (Kd.R_lt (by (with_reducible repeat (first | apply Kd.R_alloc | apply Kd.R_drewN | apply Kd.R_drew)); exact HO_5.out))) (below_size (by repeat (first | (with_reducible first | exact HB.out | apply below_alloc | apply pw_below_drewN | apply below_drew1) | exact HB.out)))); have n3_ := Aside0.mk (below_step (by repeat (first | (with_reducible first | exact HB.out | apply below_alloc | apply pw_below_drewN | apply below_drew1) | exact HB.out)) hb); clear HO_3; clear HO_5; clear HB; have HO_3 := n0_; have HO_5 := n1_; have HO383 := n2_; have HB := n3_; clear n0_ n1_ n2_ n3_; (try clear hb); (try clear hb2); (try clear hk); (try clear hi); (try clear ho0); obtain ⟨Ao47, co47, eo47⟩ := Kd.R_slice HO383.out; subst eo47) | ((with_reducible refine gate_callee (f := 30) rfl ?_); refine goesL_ (some 53) rfl rfl Tryz.func30 (by kernel_rfl) rfl #[.slice Ao47 t381.length co47] rfl (by (try simp only [List.map_toArray, List.map_cons, List.map_nil]); first | done | rfl | (simp only [List.length_drop, List.length_take]; rfl)) ?_; (with_reducible refine (impl_MonomialOfSchur.calls kj12 _ _ t381 t384 _ ?side1 ?side2 A34.out).mono ?_); (case side1 => repeat (first | exact (Kd.R_reads' HO383.out).2.2 | (with_reducible refine Kd.C_alloc ?_ _) | (with_reducible refine Kd.C_drewN ?_ _) | (with_reducible refine Kd.C_drew ?_))); (case side2 => exact (Kd.R_reads' HO383.out).2.1); rintro e w48 ⟨v385, rfl, ho0, hb⟩; refine ⟨_, rfl, ?_⟩; have n0_ := Aside0.mk (Kd.R_elder' (by (with_reducible repeat (first | apply Kd.R_alloc | apply Kd.R_drewN | apply Kd.R_drew)); exact HO_3.out) (Kd.R_base ho0) hb); have n1_ := Aside0.mk (Kd.R_elder' (by (with_reducible repeat (first | apply Kd.R_alloc | apply Kd.R_drewN | apply Kd.R_drew)); exact HO_5.out) (Kd.R_base ho0) hb); have n2_ := Aside0.mk (Kd.R_elder' (by (with_reducible repeat (first | apply Kd.R_alloc | apply Kd.R_drewN | apply Kd.R_drew)); exact HO383.out) (Kd.R_base ho0) hb); have n3_ := Aside0.mk (Kd.R_lower (Kd.R_new' (Kd.R_new' (Kd.R_new' ho0 (Kd.R_lt (by (with_reducible repeat (first | apply Kd.R_alloc | apply Kd.R_drewN | apply Kd.R_drew)); exact HO_3.out))) (Kd.R_lt (by (with_reducible repeat (first | apply Kd.R_alloc | apply Kd.R_drewN | apply Kd.R_drew)); exact HO_5.out))) (Kd.R_lt (by (with_reducible repeat (first | apply Kd.R_alloc | apply Kd.R_drewN | apply Kd.R_drew)); exact HO383.out))) (below_size (by repeat (first | (with_reducible first | exact HB.out | apply below_alloc | apply pw_below_drewN | apply below_drew1) | exact HB.out)))); have n4_ := Aside0.mk (below_step (by repeat (first | (with_reducible first | exact HB.out | apply below_alloc | apply pw_below_drewN | apply below_drew1) | exact HB.out)) hb); clear HO_3; clear HO_5; clear HO383; clear HB; have HO_3 := n0_; have HO_5 := n1_; have HO383 := n2_; have HO386 := n3_; have HB := n4_; clear n0_ n1_ n2_ n3_ n4_; (try clear hb); (try clear hb2); (try clear hk); (try clear hi); (try clear ho0); obtain ⟨Ao49, co49, eo49⟩ := Kd.R_slice HO386.out; subst eo49) | ((with_reducible refine gate_callee (f := 31) rfl ?_); refine goesL_ (some 56) rfl rfl Tryz.func31 (by kernel_rfl) rfl #[.slice Ao49 t384.length co49, .slice Ao21 t361.length co21] rfl (by (try simp only [List.map_toArray, List.map_cons, List.map_nil]); first | done | rfl | (simp only [List.length_drop, List.length_take]; rfl)) ?_; (with_reducible refine (laws_eqIntS.calls kj12 _ _ t384 _ _ t361 true _ ?side1 ?side2 ?side3 ?side4 A35.out).mono ?_); (case side1 => repeat (first | exact (Kd.R_reads' HO386.out).2.2 | (with_reducible refine Kd.C_alloc ?_ _) | (with_reducible refine Kd.C_drewN ?_ _) | (with_reducible refine Kd.C_drew ?_))); (case side2 => exact (Kd.R_reads' HO386.out).2.1); (case side3 => repeat (first | exact (Kd.R_reads' HO_3.out).2.2 | (with_reducible refine Kd.C_alloc ?_ _) | (with_reducible refine Kd.C_drewN ?_ _) | (with_reducible refine Kd.C_drew ?_))); (case side4 => exact (Kd.R_reads' HO_3.out).2.1); rintro e w' ⟨rfl, ⟨nd, rfl⟩⟩; refine ⟨_, rfl, ?_⟩) | ((with_reducible refine gate_callee (f := 33) rfl ?_); refine goesL_ (some 60) rfl rfl Tryz.func33 (by kernel_rfl) rfl #[.slice Ao20 t379.length co20, .int .i64 1] rfl (by (try simp only [List.map_toArray, List.map_cons, List.map_nil]); first | done | (rw [show t379.length = t367.length from (Kd.R_reads' HO_5.out).1.symm] <;> rfl) | rfl | (simp only [List.length_drop, List.length_take]; rfl)) ?_; (with_reducible refine (laws_heldIntS.calls kj12 _ _ t379 1 t388 _ ?side1 ?side2 A37.out).mono ?_); (case side1 => repeat (first | exact (Kd.R_reads' HO_5.out).2.2 | (with_reducible refine Kd.C_alloc ?_ _) | (with_reducible refine Kd.C_drewN ?_ _) | (with_reducible refine Kd.C_drew ?_))); (case side2 => rw [show t379.length = t367.length from (Kd.R_reads' HO_5.out).1.symm]; exact (Kd.R_reads' HO_5.out).2.1); rintro e w' ⟨rfl, ⟨nd, rfl⟩⟩; refine ⟨_, rfl, ?_⟩))
            go_ret
            exact ⟨by first | rfl | (simp [errW_none, errW_some] <;> rfl) | (simp [*, errW_none, errW_some] <;> rfl), by repeat (first | (with_reducible first | exact HB.out | apply below_alloc | apply pw_below_drewN | apply below_drew1) | exact HB.out)⟩
           ·
            rw [if_neg c44] at H
            have c44b0 : (t388 == t378) = false := beq_eq_false_iff_ne.mpr c44
            have c44b1 : (t388 != t378) = true := bne_iff_ne.mpr c44
            obtain rfl := Option.some.inj H
            go_wp2_with (first | ((with_reducible refine gate_callee (f := 32) rfl ?_); refine goesL_ (some 42) rfl rfl Tryz.func32 (by kernel_rfl) rfl #[.slice Ao20 t367.length co20, .int .i64 1] rfl (by (try simp only [List.map_toArray, List.map_cons, List.map_nil]); first | done | rfl | (simp only [List.length_drop, List.length_take]; rfl)) ?_; (with_reducible refine (laws_markIntS.calls kj12 (fun k_ => some k_ = (.slice Ao20 t367.length co20 : Value).ownBlock) (.slice Ao20 t367.length co20) t367 1 t378 t379 w _ ?side1 ?side2 A28.out).mono ?_); (case side1 => repeat (first | (with_reducible first | exact HB.out | apply below_alloc | apply pw_below_drewN | apply below_drew1) | exact HB.out)); (case side2 => exact Kd.R_tight rfl HO_5.out); rintro e w50 ⟨rfl, hy0, hb, hkp⟩; refine ⟨_, rfl, ?_⟩; have n0_ := Aside0.mk (Kd.R_mono (ok' := fun k_ => some k_ ≠ (.slice Ao20 t367.length co20 : Value).ownBlock) (Kd.R_keptB (HO_3.out) hkp (fun k_ hk_ hs_ => (hk_) hs_)) (fun k_ hk_ => hk_.1)); have n1_ := Aside0.mk (Kd.R_reok rfl hy0 (fun k_ e_ => HO_5.out.1 k_ e_)); have n2_ := Aside0.mk (hb); clear HO_3; clear HO_5; clear HB; have HO_3 := n0_; have HO_5 := n1_; have HB := n2_; clear n0_ n1_ n2_; (try clear hb); (try clear hkp); (try clear hy0)) | ((with_reducible refine gate_callee (f := 33) rfl ?_); refine goesL_ (some 45) rfl rfl Tryz.func33 (by kernel_rfl) rfl #[.slice Ao20 t379.length co20, .int .i64 1] rfl (by (try simp only [List.map_toArray, List.map_cons, List.map_nil]); first | done | (rw [show t379.length = t367.length from (Kd.R_reads' HO_5.out).1.symm] <;> rfl) | rfl | (simp only [List.length_drop, List.length_take]; rfl)) ?_; (with_reducible refine (laws_heldIntS.calls kj12 _ _ t379 1 t380 _ ?side1 ?side2 A29.out).mono ?_); (case side1 => repeat (first | exact (Kd.R_reads' HO_5.out).2.2 | (with_reducible refine Kd.C_alloc ?_ _) | (with_reducible refine Kd.C_drewN ?_ _) | (with_reducible refine Kd.C_drew ?_))); (case side2 => rw [show t379.length = t367.length from (Kd.R_reads' HO_5.out).1.symm]; exact (Kd.R_reads' HO_5.out).2.1); rintro e w' ⟨rfl, ⟨nd, rfl⟩⟩; refine ⟨_, rfl, ?_⟩) | ((with_reducible refine gate_callee (f := 29) rfl ?_); refine goesL_ (some 52) rfl rfl Tryz.func29 (by kernel_rfl) rfl #[.slice A0 l0.length c0] rfl (by (try simp only [List.map_toArray, List.map_cons, List.map_nil]); first | done | rfl | (simp only [List.length_drop, List.length_take]; rfl)) ?_; (with_reducible refine (laws_toIntS.calls kj12 _ _ l0 t381 _ ?side1 ?side2 A33.out).mono ?_); (case side1 => repeat (first | exact (Kd.C_below HR0.out (by repeat (first | (with_reducible first | exact HB.out | apply below_alloc | apply pw_below_drewN | apply below_drew1) | exact HB.out))) | (with_reducible refine Kd.C_alloc ?_ _) | (with_reducible refine Kd.C_drewN ?_ _) | (with_reducible refine Kd.C_drew ?_))); (case side2 => exact HC0.out); rintro e w51 ⟨v382, rfl, ho0, hb⟩; refine ⟨_, rfl, ?_⟩; have n0_ := Aside0.mk (Kd.R_elder' (by (with_reducible repeat (first | apply Kd.R_alloc | apply Kd.R_drewN | apply Kd.R_drew)); exact HO_3.out) (Kd.R_base ho0) hb); have n1_ := Aside0.mk (Kd.R_elder' (by (with_reducible repeat (first | apply Kd.R_alloc | apply Kd.R_drewN | apply Kd.R_drew)); exact HO_5.out) (Kd.R_base ho0) hb); have n2_ := Aside0.mk (Kd.R_lower (Kd.R_new' (Kd.R_new' ho0 (Kd.R_lt (by (with_reducible repeat (first | apply Kd.R_alloc | apply Kd.R_drewN | apply Kd.R_drew)); exact HO_3.out))) (Kd.R_lt (by (with_reducible repeat (first | apply Kd.R_alloc | apply Kd.R_drewN | apply Kd.R_drew)); exact HO_5.out))) (below_size (by repeat (first | (with_reducible first | exact HB.out | apply below_alloc | apply pw_below_drewN | apply below_drew1) | exact HB.out)))); have n3_ := Aside0.mk (below_step (by repeat (first | (with_reducible first | exact HB.out | apply below_alloc | apply pw_below_drewN | apply below_drew1) | exact HB.out)) hb); clear HO_3; clear HO_5; clear HB; have HO_3 := n0_; have HO_5 := n1_; have HO383 := n2_; have HB := n3_; clear n0_ n1_ n2_ n3_; (try clear hb); (try clear hb2); (try clear hk); (try clear hi); (try clear ho0); obtain ⟨Ao52, co52, eo52⟩ := Kd.R_slice HO383.out; subst eo52) | ((with_reducible refine gate_callee (f := 30) rfl ?_); refine goesL_ (some 53) rfl rfl Tryz.func30 (by kernel_rfl) rfl #[.slice Ao52 t381.length co52] rfl (by (try simp only [List.map_toArray, List.map_cons, List.map_nil]); first | done | rfl | (simp only [List.length_drop, List.length_take]; rfl)) ?_; (with_reducible refine (impl_MonomialOfSchur.calls kj12 _ _ t381 t384 _ ?side1 ?side2 A34.out).mono ?_); (case side1 => repeat (first | exact (Kd.R_reads' HO383.out).2.2 | (with_reducible refine Kd.C_alloc ?_ _) | (with_reducible refine Kd.C_drewN ?_ _) | (with_reducible refine Kd.C_drew ?_))); (case side2 => exact (Kd.R_reads' HO383.out).2.1); rintro e w53 ⟨v385, rfl, ho0, hb⟩; refine ⟨_, rfl, ?_⟩; have n0_ := Aside0.mk (Kd.R_elder' (by (with_reducible repeat (first | apply Kd.R_alloc | apply Kd.R_drewN | apply Kd.R_drew)); exact HO_3.out) (Kd.R_base ho0) hb); have n1_ := Aside0.mk (Kd.R_elder' (by (with_reducible repeat (first | apply Kd.R_alloc | apply Kd.R_drewN | apply Kd.R_drew)); exact HO_5.out) (Kd.R_base ho0) hb); have n2_ := Aside0.mk (Kd.R_elder' (by (with_reducible repeat (first | apply Kd.R_alloc | apply Kd.R_drewN | apply Kd.R_drew)); exact HO383.out) (Kd.R_base ho0) hb); have n3_ := Aside0.mk (Kd.R_lower (Kd.R_new' (Kd.R_new' (Kd.R_new' ho0 (Kd.R_lt (by (with_reducible repeat (first | apply Kd.R_alloc | apply Kd.R_drewN | apply Kd.R_drew)); exact HO_3.out))) (Kd.R_lt (by (with_reducible repeat (first | apply Kd.R_alloc | apply Kd.R_drewN | apply Kd.R_drew)); exact HO_5.out))) (Kd.R_lt (by (with_reducible repeat (first | apply Kd.R_alloc | apply Kd.R_drewN | apply Kd.R_drew)); exact HO383.out))) (below_size (by repeat (first | (with_reducible first | exact HB.out | apply below_alloc | apply pw_below_drewN | apply below_drew1) | exact HB.out)))); have n4_ := Aside0.mk (below_step (by repeat (first | (with_reducible first | exact HB.out | apply below_alloc | apply pw_below_drewN | apply below_drew1) | exact HB.out)) hb); clear HO_3; clear HO_5; clear HO383; clear HB; have HO_3 := n0_; have HO_5 := n1_; have HO383 := n2_; have HO386 := n3_; have HB := n4_; clear n0_ n1_ n2_ n3_ n4_; (try clear hb); (try clear hb2); (try clear hk); (try clear hi); (try clear ho0); obtain ⟨Ao54, co54, eo54⟩ := Kd.R_slice HO386.out; subst eo54) | ((with_reducible refine gate_callee (f := 31) rfl ?_); refine goesL_ (some 56) rfl rfl Tryz.func31 (by kernel_rfl) rfl #[.slice Ao54 t384.length co54, .slice Ao21 t361.length co21] rfl (by (try simp only [List.map_toArray, List.map_cons, List.map_nil]); first | done | rfl | (simp only [List.length_drop, List.length_take]; rfl)) ?_; (with_reducible refine (laws_eqIntS.calls kj12 _ _ t384 _ _ t361 true _ ?side1 ?side2 ?side3 ?side4 A35.out).mono ?_); (case side1 => repeat (first | exact (Kd.R_reads' HO386.out).2.2 | (with_reducible refine Kd.C_alloc ?_ _) | (with_reducible refine Kd.C_drewN ?_ _) | (with_reducible refine Kd.C_drew ?_))); (case side2 => exact (Kd.R_reads' HO386.out).2.1); (case side3 => repeat (first | exact (Kd.R_reads' HO_3.out).2.2 | (with_reducible refine Kd.C_alloc ?_ _) | (with_reducible refine Kd.C_drewN ?_ _) | (with_reducible refine Kd.C_drew ?_))); (case side4 => exact (Kd.R_reads' HO_3.out).2.1); rintro e w' ⟨rfl, ⟨nd, rfl⟩⟩; refine ⟨_, rfl, ?_⟩) | ((with_reducible refine gate_callee (f := 33) rfl ?_); refine goesL_ (some 60) rfl rfl Tryz.func33 (by kernel_rfl) rfl #[.slice Ao20 t379.length co20, .int .i64 1] rfl (by (try simp only [List.map_toArray, List.map_cons, List.map_nil]); first | done | (rw [show t379.length = t367.length from (Kd.R_reads' HO_5.out).1.symm] <;> rfl) | rfl | (simp only [List.length_drop, List.length_take]; rfl)) ?_; (with_reducible refine (laws_heldIntS.calls kj12 _ _ t379 1 t388 _ ?side1 ?side2 A37.out).mono ?_); (case side1 => repeat (first | exact (Kd.R_reads' HO_5.out).2.2 | (with_reducible refine Kd.C_alloc ?_ _) | (with_reducible refine Kd.C_drewN ?_ _) | (with_reducible refine Kd.C_drew ?_))); (case side2 => rw [show t379.length = t367.length from (Kd.R_reads' HO_5.out).1.symm]; exact (Kd.R_reads' HO_5.out).2.1); rintro e w' ⟨rfl, ⟨nd, rfl⟩⟩; refine ⟨_, rfl, ?_⟩))
            go_ret
            exact ⟨by first | rfl | (simp [errW_none, errW_some] <;> rfl) | (simp [*, errW_none, errW_some] <;> rfl), by repeat (first | (with_reducible first | exact HB.out | apply below_alloc | apply pw_below_drewN | apply below_drew1) | exact HB.out)⟩
         ·
          replace c36 := Bool.eq_false_iff.mpr c36
          subst c36
          have H1 : (some false) = some r := by rw [if_neg (show ¬ (false = true) by decide)] at H; exact H
          clear H
          have H := H1
          clear H1
          exact absurd ((Option.some.inj H).trans hT) (by decide)
        ·
         rw [if_neg c32] at H
         have c32b0 : (t380 == t378) = false := beq_eq_false_iff_ne.mpr c32
         have c32b1 : (t380 != t378) = true := bne_iff_ne.mpr c32
         obtain rfl := Option.some.inj H
         go_wp2_with (first | ((with_reducible refine gate_callee (f := 32) rfl ?_); refine goesL_ (some 42) rfl rfl Tryz.func32 (by kernel_rfl) rfl #[.slice Ao20 t367.length co20, .int .i64 1] rfl (by (try simp only [List.map_toArray, List.map_cons, List.map_nil]); first | done | rfl | (simp only [List.length_drop, List.length_take]; rfl)) ?_; (with_reducible refine (laws_markIntS.calls kj12 (fun k_ => some k_ = (.slice Ao20 t367.length co20 : Value).ownBlock) (.slice Ao20 t367.length co20) t367 1 t378 t379 w _ ?side1 ?side2 A28.out).mono ?_); (case side1 => repeat (first | (with_reducible first | exact HB.out | apply below_alloc | apply pw_below_drewN | apply below_drew1) | exact HB.out)); (case side2 => exact Kd.R_tight rfl HO_5.out); rintro e w60 ⟨rfl, hy0, hb, hkp⟩; refine ⟨_, rfl, ?_⟩; have n0_ := Aside0.mk (Kd.R_mono (ok' := fun k_ => some k_ ≠ (.slice Ao20 t367.length co20 : Value).ownBlock) (Kd.R_keptB (HO_3.out) hkp (fun k_ hk_ hs_ => (hk_) hs_)) (fun k_ hk_ => hk_.1)); have n1_ := Aside0.mk (Kd.R_reok rfl hy0 (fun k_ e_ => HO_5.out.1 k_ e_)); have n2_ := Aside0.mk (hb); clear HO_3; clear HO_5; clear HB; have HO_3 := n0_; have HO_5 := n1_; have HB := n2_; clear n0_ n1_ n2_; (try clear hb); (try clear hkp); (try clear hy0)) | ((with_reducible refine gate_callee (f := 33) rfl ?_); refine goesL_ (some 45) rfl rfl Tryz.func33 (by kernel_rfl) rfl #[.slice Ao20 t379.length co20, .int .i64 1] rfl (by (try simp only [List.map_toArray, List.map_cons, List.map_nil]); first | done | (rw [show t379.length = t367.length from (Kd.R_reads' HO_5.out).1.symm] <;> rfl) | rfl | (simp only [List.length_drop, List.length_take]; rfl)) ?_; (with_reducible refine (laws_heldIntS.calls kj12 _ _ t379 1 t380 _ ?side1 ?side2 A29.out).mono ?_); (case side1 => repeat (first | exact (Kd.R_reads' HO_5.out).2.2 | (with_reducible refine Kd.C_alloc ?_ _) | (with_reducible refine Kd.C_drewN ?_ _) | (with_reducible refine Kd.C_drew ?_))); (case side2 => rw [show t379.length = t367.length from (Kd.R_reads' HO_5.out).1.symm]; exact (Kd.R_reads' HO_5.out).2.1); rintro e w' ⟨rfl, ⟨nd, rfl⟩⟩; refine ⟨_, rfl, ?_⟩))
         go_ret
         exact ⟨by first | rfl | (simp [errW_none, errW_some] <;> rfl) | (simp [*, errW_none, errW_some] <;> rfl), by repeat (first | (with_reducible first | exact HB.out | apply below_alloc | apply pw_below_drewN | apply below_drew1) | exact HB.out)⟩
   ·
    replace c11 := Bool.eq_false_iff.mpr c11
    subst c11
    have H1 : (some false) = some r := by rw [if_neg (show ¬ (false = true) by decide)] at H; exact H
    clear H
    have H := H1
    clear H1
    exact absurd ((Option.some.inj H).trans hT) (by decide)
  ·
   replace c8 := Bool.eq_false_iff.mpr c8
   subst c8
   have H1 : (some false) = some r := by rw [if_neg (show ¬ (false = true) by decide)] at H; exact H
   clear H
   have H := H1
   clear H1
   exact absurd ((Option.some.inj H).trans hT) (by decide)
end Go.Proofs.YtppkfgcnmaifmaaGreatDoor.Hb
namespace Go.Proofs.YtppkfgcnmaifmaaGreatDoor.Hb
open Go.RowKit Go.Proofs.YtppkfgcnmaifmaaGreatDoorW.PrintWords Go.Proofs.YtppkfgcnmaifmaaGreatDoorW.PrintLast Go.Proofs.YtppkfgcnmaifmaaGreatDoorW.PrintMore
attribute [local go_sem] max2_int min2_int max_two min_two max_three min_three max_four min_four
set_option linter.unusedVariables false
set_option linter.unusedSimpArgs false
open Pu
theorem w64 (n : Int) (h1 : -9223372036854775808 ≤ n) (h2 : n ≤ 9223372036854775807) : wrap64 n = n := by unfold wrap64; omega
theorem rd_mid (pre : List Int) (x : Int) (rest : List Int) : rd (pre ++ x :: rest) (pre.length : Int) = x := by simp [rd]
theorem rd_nat (l : List Int) (i : Nat) : rd l (i : Int) = l.getD i 0 := by simp [rd]
theorem rd_before (pre rest : List Int) (h : 0 < pre.length) : rd (pre ++ rest) ((pre.length : Int) - 1) = pre.getD (pre.length - 1) 0 := by
  rw [show ((pre.length : Int) - 1) = ((pre.length - 1 : Nat) : Int) by omega, rd_nat, getD_before pre rest 0 h]
theorem len_snoc (pre : List Int) (x : Int) : ((pre ++ [x]).length : Int) = (pre.length : Int) + 1 := by simp
theorem within_eq (a lo hi : Int) : impl_within.f a lo hi = some (decide (lo ≤ a ∧ a ≤ hi)) := by
  unfold impl_within.f
  by_cases h : lo ≤ a <;> simp [h]
theorem in_eq (a lo hi : Int) : spec_l1In.f a lo hi = some (decide (lo ≤ a ∧ a ≤ hi)) := by
  unfold spec_l1In.f
  by_cases h : lo ≤ a <;> simp [h]
theorem sum_l0 (l : List Int) (hl : l.length ≤ 10000000) : ∀ (rest pre : List Int) (acc : Int), l = pre ++ rest → (∀ x ∈ rest, 0 ≤ x ∧ x ≤ 9) → 0 ≤ acc → acc ≤ 9 * pre.length → Evs (fun k => impl_sum.l0 k acc l (l.length : Int) (pre.length : Int)) (acc + rest.sum)
  | [], pre, acc, e, _, _, _ => by
    have h : ¬ (pre.length : Int) < (l.length : Int) := by rw [e]; simp
    refine Evs.succ ?_
    simp only [impl_sum.l0, if_neg h]
    exact (Evs.pure _).same (by simp)
  | x :: rest, pre, acc, e, hx, h0, h1 => by
    have hlen : pre.length < l.length := by rw [e]; simp
    have h2 : (pre.length : Int) < (l.length : Int) := by omega
    have h3 : (0 : Int) ≤ (pre.length : Int) := by omega
    have hr : rd l (pre.length : Int) = x := by rw [e, rd_mid]
    have hxx := hx x (List.mem_cons_self ..)
    have e1 : wrap64 (acc + x) = acc + x := w64 _ (by omega) (by omega)
    have e2 : wrap64 ((pre.length : Int) + 1) = ((pre ++ [x]).length : Int) := by rw [len_snoc]; exact w64 _ (by omega) (by omega)
    refine Evs.succ ?_
    simp only [impl_sum.l0, if_pos h2, if_pos h3, hr, e1, e2]
    exact (sum_l0 l hl rest (pre ++ [x]) (acc + x) (by rw [e]; simp) (fun y hy => hx y (List.mem_cons_of_mem _ hy)) (by omega) (by rw [len_snoc]; omega)).same (by simp; omega)
theorem sum_ev (l : List Int) (hl : l.length ≤ 10000000) (h : ∀ x ∈ l, 0 ≤ x ∧ x ≤ 9) : Evs (fun k => impl_sum.f k l) l.sum := by
  unfold impl_sum.f
  exact (sum_l0 l hl l [] 0 rfl h (Int.le_refl _) (by simp)).same (by simp)
theorem size_l0 (l : List Int) (hl : l.length ≤ 10000000) : ∀ (rest pre : List Int) (acc : Int), l = pre ++ rest → (∀ x ∈ rest, 0 ≤ x ∧ x ≤ 9) → 0 ≤ acc → acc ≤ 9 * pre.length → Evs (fun k => spec_l2Size.l0 k l acc (pre.length : Int)) (acc + rest.sum)
  | [], pre, acc, e, _, _, _ => by
    have h : ¬ (pre.length : Int) < (l.length : Int) := by rw [e]; simp
    refine Evs.succ ?_
    simp only [spec_l2Size.l0, if_neg h]
    exact (Evs.pure _).same (by simp)
  | x :: rest, pre, acc, e, hx, h0, h1 => by
    have hlen : pre.length < l.length := by rw [e]; simp
    have h2 : (pre.length : Int) < (l.length : Int) := by omega
    have h3 : (0 : Int) ≤ (pre.length : Int) := by omega
    have hr : rd l (pre.length : Int) = x := by rw [e, rd_mid]
    have hxx := hx x (List.mem_cons_self ..)
    have e1 : wrap64 (acc + x) = acc + x := w64 _ (by omega) (by omega)
    have e2 : wrap64 ((pre.length : Int) + 1) = ((pre ++ [x]).length : Int) := by rw [len_snoc]; exact w64 _ (by omega) (by omega)
    refine Evs.succ ?_
    simp only [spec_l2Size.l0, if_pos h2, if_pos h3, hr, e1, e2]
    exact (size_l0 l hl rest (pre ++ [x]) (acc + x) (by rw [e]; simp) (fun y hy => hx y (List.mem_cons_of_mem _ hy)) (by omega) (by rw [len_snoc]; omega)).same (by simp; omega)
theorem size_ev (l : List Int) (hl : l.length ≤ 10000000) (h : ∀ x ∈ l, 0 ≤ x ∧ x ≤ 9) : Evs (fun k => spec_l2Size.f k l) l.sum := by
  unfold spec_l2Size.f
  exact (size_l0 l hl l [] 0 rfl h (Int.le_refl _) (by simp)).same (by simp)
theorem ipart_j1 (l : List Int) (all x len i : Int) (b : Bool) (R : Bool) (ha : 0 ≤ all ∧ all ≤ 9) (hx : b = false → 1 ≤ x ∧ x ≤ 9) (hR : b = false → all + x ≤ 9 → Evs (fun k => impl_IsPartition.l0 k l (all + x) l len (wrap64 (i + 1))) R) :
    Evs (fun k => impl_IsPartition.j1 k l all x l len i b) (if b = true then false else if all + x > 9 then false else R) := by
  refine Evs.succ ?_
  cases b with
  | true => simp only [impl_IsPartition.j1, if_true]; exact Evs.pure _
  | false =>
    have hx := hx rfl
    have e : wrap64 (all + x) = all + x := w64 _ (by omega) (by omega)
    simp only [impl_IsPartition.j1, e, Bool.false_eq_true, if_false]
    by_cases h : all + x > 9
    · simp only [if_pos h]; exact Evs.pure _
    · simp only [if_neg h]; exact hR rfl (by omega)
theorem ipart_l0 (l : List Int) (hl : l.length ≤ 10000000) : ∀ (rest pre : List Int) (all : Int), l = pre ++ rest → 0 ≤ all ∧ all ≤ 9 → Evs (fun k => impl_IsPartition.l0 k l all l (l.length : Int) (pre.length : Int)) (chk pre all rest)
  | [], pre, all, e, _ => by
    have h : ¬ (pre.length : Int) < (l.length : Int) := by rw [e]; simp
    refine Evs.succ ?_
    simp only [impl_IsPartition.l0, if_neg h]
    exact Evs.pure _
  | x :: rest, pre, all, e, ha => by
    have hlen : pre.length < l.length := by rw [e]; simp
    have h2 : (pre.length : Int) < (l.length : Int) := by omega
    have h3 : (0 : Int) ≤ (pre.length : Int) := by omega
    have hr : rd l (pre.length : Int) = x := by rw [e, rd_mid]
    have e2 : wrap64 ((pre.length : Int) + 1) = ((pre ++ [x]).length : Int) := by rw [len_snoc]; exact w64 _ (by omega) (by omega)
    have e3 : wrap64 ((pre.length : Int) - 1) = (pre.length : Int) - 1 := w64 _ (by omega) (by omega)
    have ih : 1 ≤ x → all + x ≤ 9 → Evs (fun k => impl_IsPartition.l0 k l (all + x) l (l.length : Int) (wrap64 ((pre.length : Int) + 1))) (chk (pre ++ [x]) (all + x) rest) := fun h1 h2 => by
      rw [e2]
      exact ipart_l0 l hl rest (pre ++ [x]) (all + x) (by rw [e]; simp) ⟨by omega, h2⟩
    refine Evs.succ ?_
    simp only [impl_IsPartition.l0, if_pos h2, if_pos h3, hr, within_eq, Option.bind_some]
    by_cases c1 : 1 ≤ x ∧ x ≤ 9
    · simp only [decide_eq_true c1, if_true]
      by_cases c0 : (pre.length : Int) > 0
      · have h4 : (0 : Int) ≤ (pre.length : Int) - 1 := by omega
        have h5 : (pre.length : Int) - 1 < (l.length : Int) := by omega
        have hb : rd l ((pre.length : Int) - 1) = pre.getD (pre.length - 1) 0 := by rw [e, rd_before pre _ (by omega)]
        simp only [if_pos c0, e3, if_pos h4, if_pos h5, hb]
        refine (ipart_j1 l all x (l.length : Int) (pre.length : Int) _ (chk (pre ++ [x]) (all + x) rest) ha (fun _ => c1) (fun _ h => ih c1.1 h)).same ?_
        rw [chk_cons]
        by_cases c2 : x ≤ pre.getD (pre.length - 1) 0
        · rw [if_neg (by rw [decide_eq_true_eq]; omega)]
          by_cases c3 : all + x > 9
          · rw [if_pos c3, if_neg (by omega)]
          · rw [if_neg c3, if_pos ⟨c1, fun _ => c2, by omega⟩]
        · rw [if_pos (by rw [decide_eq_true_eq]; omega), if_neg (fun h => c2 (h.2.1 (by omega)))]
      · simp only [if_neg c0]
        refine (ipart_j1 l all x (l.length : Int) (pre.length : Int) false (chk (pre ++ [x]) (all + x) rest) ha (fun _ => c1) (fun _ h => ih c1.1 h)).same ?_
        rw [chk_cons]
        simp only [Bool.false_eq_true, if_false]
        by_cases c3 : all + x > 9
        · rw [if_pos c3, if_neg (by omega)]
        · rw [if_neg c3, if_pos ⟨c1, fun h => absurd h (by omega), by omega⟩]
    · simp only [decide_eq_false c1, Bool.false_eq_true, if_false]
      refine (ipart_j1 l all x (l.length : Int) (pre.length : Int) true true ha (fun h => by cases h) (fun h => by cases h)).same ?_
      rw [chk_cons]
      rw [if_pos rfl, if_neg (fun h => c1 h.1)]
theorem ipart_ev (l : List Int) (hl : l.length ≤ 10000000) : Evs (fun k => impl_IsPartition.f k l) (isPt l) := by
  unfold impl_IsPartition.f isPt
  exact ipart_l0 l hl l [] 0 rfl ⟨by omega, by omega⟩
theorem spart_j1 (l : List Int) (all x i : Int) (b : Bool) (R : Bool) (h0 : 0 ≤ i) (h1 : i < (l.length : Int)) (hr : rd l i = x) (ha : 0 ≤ all ∧ all ≤ 9) (hx : b = false → 1 ≤ x ∧ x ≤ 9) (hR : b = false → all + x ≤ 9 → Evs (fun k => spec_IsPartition.l0 k l (all + x) (wrap64 (i + 1))) R) :
    Evs (fun k => spec_IsPartition.j1 k l all i b) (if b = true then false else if all + x > 9 then false else R) := by
  refine Evs.succ ?_
  cases b with
  | true => simp only [spec_IsPartition.j1, if_true]; exact Evs.pure _
  | false =>
    have hx := hx rfl
    have e : wrap64 (all + x) = all + x := w64 _ (by omega) (by omega)
    simp only [spec_IsPartition.j1, if_pos h0, if_pos h1, hr, e, Bool.false_eq_true, if_false]
    by_cases h : all + x > 9
    · simp only [if_pos h]; exact Evs.pure _
    · simp only [if_neg h]; exact hR rfl (by omega)
theorem spart_l0 (l : List Int) (hl : l.length ≤ 10000000) : ∀ (rest pre : List Int) (all : Int), l = pre ++ rest → 0 ≤ all ∧ all ≤ 9 → Evs (fun k => spec_IsPartition.l0 k l all (pre.length : Int)) (chk pre all rest)
  | [], pre, all, e, _ => by
    have h : ¬ (pre.length : Int) < (l.length : Int) := by rw [e]; simp
    refine Evs.succ ?_
    simp only [spec_IsPartition.l0, if_neg h]
    exact Evs.pure _
  | x :: rest, pre, all, e, ha => by
    have hlen : pre.length < l.length := by rw [e]; simp
    have h2 : (pre.length : Int) < (l.length : Int) := by omega
    have h3 : (0 : Int) ≤ (pre.length : Int) := by omega
    have hr : rd l (pre.length : Int) = x := by rw [e, rd_mid]
    have e2 : wrap64 ((pre.length : Int) + 1) = ((pre ++ [x]).length : Int) := by rw [len_snoc]; exact w64 _ (by omega) (by omega)
    have e3 : wrap64 ((pre.length : Int) - 1) = (pre.length : Int) - 1 := w64 _ (by omega) (by omega)
    have ih : 1 ≤ x → all + x ≤ 9 → Evs (fun k => spec_IsPartition.l0 k l (all + x) (wrap64 ((pre.length : Int) + 1))) (chk (pre ++ [x]) (all + x) rest) := fun h1 h2 => by
      rw [e2]
      exact spart_l0 l hl rest (pre ++ [x]) (all + x) (by rw [e]; simp) ⟨by omega, h2⟩
    refine Evs.succ ?_
    simp only [spec_IsPartition.l0, if_pos h2, if_pos h3, hr, in_eq, Option.bind_some]
    by_cases c1 : 1 ≤ x ∧ x ≤ 9
    · simp only [decide_eq_true c1, if_true]
      by_cases c0 : (pre.length : Int) > 0
      · have h4 : (0 : Int) ≤ (pre.length : Int) - 1 := by omega
        have h5 : (pre.length : Int) - 1 < (l.length : Int) := by omega
        have hb : rd l ((pre.length : Int) - 1) = pre.getD (pre.length - 1) 0 := by rw [e, rd_before pre _ (by omega)]
        simp only [if_pos c0, e3, if_pos h4, if_pos h5, hb]
        refine (spart_j1 l all x (pre.length : Int) _ (chk (pre ++ [x]) (all + x) rest) h3 h2 hr ha (fun _ => c1) (fun _ h => ih c1.1 h)).same ?_
        rw [chk_cons]
        by_cases c2 : x ≤ pre.getD (pre.length - 1) 0
        · rw [if_neg (by rw [decide_eq_true_eq]; omega)]
          by_cases c3 : all + x > 9
          · rw [if_pos c3, if_neg (by omega)]
          · rw [if_neg c3, if_pos ⟨c1, fun _ => c2, by omega⟩]
        · rw [if_pos (by rw [decide_eq_true_eq]; omega), if_neg (fun h => c2 (h.2.1 (by omega)))]
      · simp only [if_neg c0]
        refine (spart_j1 l all x (pre.length : Int) false (chk (pre ++ [x]) (all + x) rest) h3 h2 hr ha (fun _ => c1) (fun _ h => ih c1.1 h)).same ?_
        rw [chk_cons]
        simp only [Bool.false_eq_true, if_false]
        by_cases c3 : all + x > 9
        · rw [if_pos c3, if_neg (by omega)]
        · rw [if_neg c3, if_pos ⟨c1, fun h => absurd h (by omega), by omega⟩]
    · simp only [decide_eq_false c1, Bool.false_eq_true, if_false]
      refine (spart_j1 l all x (pre.length : Int) true true h3 h2 hr ha (fun h => by cases h) (fun h => by cases h)).same ?_
      rw [chk_cons]
      rw [if_pos rfl, if_neg (fun h => c1 h.1)]
theorem spart_ev (l : List Int) (hl : l.length ≤ 10000000) : Evs (fun k => spec_IsPartition.f k l) (isPt l) := by
  unfold spec_IsPartition.f isPt
  exact spart_l0 l hl l [] 0 rfl ⟨by omega, by omega⟩
end Go.Proofs.YtppkfgcnmaifmaaGreatDoor.Hb
namespace Go.Proofs.YtppkfgcnmaifmaaGreatDoor.Hb
open Go.RowKit Go.Proofs.YtppkfgcnmaifmaaGreatDoorW.PrintWords Go.Proofs.YtppkfgcnmaifmaaGreatDoorW.PrintLast Go.Proofs.YtppkfgcnmaifmaaGreatDoorW.PrintMore
attribute [local go_sem] max2_int min2_int max_two min_two max_three min_three max_four min_four
set_option linter.unusedVariables false
set_option linter.unusedSimpArgs false
open Pu
theorem at_nat (l : List Int) (i : Nat) (hl : l.length ≤ 4000000) : impl_at.f l (i : Int) = some (l.getD i 0) := by
  rw [impl_grow.at_eq l _ hl, Gr.atL_nat]
theorem iins_l0 (p q : List Int) (hp : p.length ≤ 4000000) (hq : q.length ≤ 4000000) : ∀ (rest pre : List Int), q = pre ++ rest → Evs (fun k => impl_IsInside.l0 k p q (q.length : Int) (pre.length : Int)) (insR p pre.length rest)
  | [], pre, e => by
    have h : ¬ (pre.length : Int) < (q.length : Int) := by rw [e]; simp
    refine Evs.succ ?_
    simp only [impl_IsInside.l0, if_neg h]
    exact Evs.pure _
  | x :: rest, pre, e => by
    have hlen : pre.length < q.length := by rw [e]; simp
    have h2 : (pre.length : Int) < (q.length : Int) := by omega
    have h3 : (0 : Int) ≤ (pre.length : Int) := by omega
    have hr : rd q (pre.length : Int) = x := by rw [e, rd_mid]
    have e2 : wrap64 ((pre.length : Int) + 1) = ((pre ++ [x]).length : Int) := by rw [len_snoc]; exact w64 _ (by omega) (by omega)
    refine Evs.succ ?_
    simp only [impl_IsInside.l0, if_pos h2, if_pos h3, hr, at_nat p _ hp, Option.bind_some, e2]
    unfold insR
    by_cases c : x > p.getD pre.length 0
    · simp only [if_pos c]; exact Evs.pure _
    · simp only [if_neg c]
      have := iins_l0 p q hp hq rest (pre ++ [x]) (by rw [e]; simp)
      rw [List.length_append, List.length_singleton] at this
      simpa using this
theorem iins_j0 (p q : List Int) (hp : p.length ≤ 4000000) (hq : q.length ≤ 4000000) (b : Bool) : Evs (fun k => impl_IsInside.j0 k q p b) (!b && insR p 0 q) := by
  refine Evs.succ ?_
  cases b with
  | true => simp only [impl_IsInside.j0, if_true]; exact Evs.pure _
  | false =>
    simp only [impl_IsInside.j0, Bool.false_eq_true, if_false]
    exact iins_l0 p q hp hq q [] rfl
theorem iins_ev (q p : List Int) (hq : q.length ≤ 4000000) (hp : p.length ≤ 4000000) : Evs (fun k => impl_IsInside.f k q p) (inside q p) := by
  unfold impl_IsInside.f
  rw [inside_eq]
  refine (ipart_ev q (by omega)).bind ?_
  cases hA : isPt q with
  | false =>
    simp only [Bool.false_eq_true, if_false]
    exact (iins_j0 p q hp hq true).same (by simp)
  | true =>
    simp only [if_true]
    refine (ipart_ev p (by omega)).bind ?_
    exact (iins_j0 p q hp hq _).same (by cases isPt p <;> simp)
theorem ishape_ev (o i : List Int) (ho : o.length ≤ 4000000) (hi : i.length ≤ 4000000) : Evs (fun k => impl_IsShape.f k o i) (inside i o) := by
  unfold impl_IsShape.f
  exact (iins_ev i o hi ho).bind (Evs.pure _)
theorem nn_of {p : List Int} (h : Part p) : ∀ x ∈ p, 0 ≤ x ∧ x ≤ 9 := fun x hx => by have := h.le x hx; omega
theorem count_ev (o i : List Int) (ho : o.length ≤ 4000000) (hi : i.length ≤ 4000000) : Evs (fun k => impl_CellCount.f k o i) (if inside i o = true then o.sum - i.sum else -1) := by
  unfold impl_CellCount.f
  refine (ishape_ev o i ho hi).bind ?_
  cases h : inside i o with
  | false => simp only [Bool.false_eq_true, if_false]; exact Evs.pure _
  | true =>
    obtain ⟨h1, h2, h3⟩ := (inside_iff i o).1 h
    simp only [if_true]
    refine (sum_ev o (by omega) (nn_of h2)).bind ((sum_ev i (by omega) (nn_of h1)).bind ?_)
    have a1 := h1.sum
    have a2 := h2.sum
    have a3 := sum_ge i h1.pos
    have a4 := sum_ge o h2.pos
    exact (Evs.pure _).same (w64 _ (by omega) (by omega))
end Go.Proofs.YtppkfgcnmaifmaaGreatDoor.Hb
namespace Go.Proofs.YtppkfgcnmaifmaaGreatDoor.Hb
open Go.RowKit Go.Proofs.YtppkfgcnmaifmaaGreatDoorW.PrintWords Go.Proofs.YtppkfgcnmaifmaaGreatDoorW.PrintLast Go.Proofs.YtppkfgcnmaifmaaGreatDoorW.PrintMore
attribute [local go_sem] max2_int min2_int max_two min_two max_three min_three max_four min_four
set_option linter.unusedVariables false
set_option linter.unusedSimpArgs false
open Pu
def chains (outer inner : List Int) : List Int → List (List Int) → Int → List (List Int) → List (List (List Int))
  | [], rows, _, chain => [chain]
  | _ :: ws, rows, k, chain => (List.range outer.length).flatMap fun r => if Gr.skip outer inner rows k r then [] else chains outer inner ws (Gr.push rows r k) (k + 1) (chain ++ [Gr.ptn outer inner (Gr.push rows r k)])
end Go.Proofs.YtppkfgcnmaifmaaGreatDoor.Hb
namespace Go.Proofs.YtppkfgcnmaifmaaGreatDoor.Hb
open Go.RowKit Go.Proofs.YtppkfgcnmaifmaaGreatDoorW.PrintWords Go.Proofs.YtppkfgcnmaifmaaGreatDoorW.PrintLast Go.Proofs.YtppkfgcnmaifmaaGreatDoorW.PrintMore
attribute [local go_sem] max2_int min2_int max_two min_two max_three min_three max_four min_four
set_option linter.unusedVariables false
set_option linter.unusedSimpArgs false
open Pu
theorem rdL_nat (l : List (List Int)) (i : Nat) : rd_L3 l (i : Int) = l.getD i [] := by simp [rd_L3]
structure Full (outer inner : List Int) (rows : List (List Int)) : Prop where
  k : ∃ k : Int, k ≤ 10 ∧ Gr.Good outer inner rows k
  full : ∀ i : Nat, i < outer.length → Gr.col inner rows i = outer.getD i 0
  inn : inside inner outer = true
theorem Full.len {outer inner : List Int} {rows : List (List Int)} (h : Full outer inner rows) : rows.length = outer.length ∧ outer.length ≤ 9 ∧ inner.length ≤ outer.length := by
  obtain ⟨k, _, hg⟩ := h.k
  obtain ⟨h1, h2, h3⟩ := (inside_iff _ _).1 h.inn
  exact ⟨hg.len, h2.len, hg.ilen⟩
theorem Full.part {outer inner : List Int} {rows : List (List Int)} (h : Full outer inner rows) : Part inner ∧ Part outer := by
  obtain ⟨h1, h2, h3⟩ := (inside_iff _ _).1 h.inn
  exact ⟨h1, h2⟩
theorem Full.row {outer inner : List Int} {rows : List (List Int)} (h : Full outer inner rows) (i : Nat) : (rows.getD i []).length ≤ 9 := by
  obtain ⟨hl, h9, _⟩ := h.len
  by_cases hi : i < outer.length
  · have h1 := h.full i hi
    have h2 := (getD_nn h.part.1 i).1
    have h3 := (getD_nn h.part.2 i).2
    unfold Gr.col at h1
    rw [Gr.atL_nat] at h1
    omega
  · simp [List.getD, show rows.length ≤ i by omega]
theorem shape_l0 {outer inner : List Int} {rows : List (List Int)} (h : Full outer inner rows) : ∀ d i : Nat, i + d = rows.length →
    Evs (fun f => impl_ShapeOf.l0 f rows (rows.length : Int) (i : Int) inner rows ((List.range i).map (Gr.col inner rows)) inner) (outer, inner, true)
  | 0, i, e => by
    obtain ⟨hl, h9, hil⟩ := h.len
    have h1 : ¬ (i : Int) < (rows.length : Int) := by omega
    have hc : (List.range i).map (Gr.col inner rows) = outer := by
      apply List.ext_getElem
      · simp; omega
      · intro j h2 h3
        rw [List.getElem_map, List.getElem_range, h.full j h3]
        simp [List.getD, h3]
    refine Evs.succ ?_
    simp only [impl_ShapeOf.l0, if_neg h1, hc]
    refine (ishape_ev outer inner (by omega) (by omega)).bind ?_
    rw [h.inn]
    simp only [if_true]
    exact Evs.pure _
  | d + 1, i, e => by
    obtain ⟨hl, h9, hil⟩ := h.len
    have h1 : (i : Int) < (rows.length : Int) := by omega
    have h0 : (0 : Int) ≤ (i : Int) := by omega
    have h2 : ((List.range i).map (Gr.col inner rows)).length < 17592186044416 := by simp; omega
    have h3 := getD_nn h.part.1 i
    have h4 := h.row i
    have e1 : wrap64 (inner.getD i 0 + ((rows.getD i []).length : Int)) = Gr.col inner rows i := by
      rw [w64 _ (by omega) (by omega)]
      unfold Gr.col
      rw [Gr.atL_nat]
    have e2 : wrap64 ((i : Int) + 1) = ((i + 1 : Nat) : Int) := by rw [w64 _ (by omega) (by omega)]; omega
    have e3 : (List.range i).map (Gr.col inner rows) ++ [Gr.col inner rows i] = (List.range (i + 1)).map (Gr.col inner rows) := by rw [List.range_succ]; simp
    refine Evs.succ ?_
    simp only [impl_ShapeOf.l0, if_pos h1, if_pos h0, at_nat inner i (by omega), Option.bind_some, if_pos h2, rdL_nat, e1, e2, e3]
    exact shape_l0 h d (i + 1) (by omega)
theorem shape_ev {outer inner : List Int} {rows : List (List Int)} (h : Full outer inner rows) : Evs (fun f => impl_ShapeOf.f f inner rows) (outer, inner, true) := by
  obtain ⟨hl, h9, hil⟩ := h.len
  unfold impl_ShapeOf.f
  refine (ipart_ev inner (by omega)).bind ?_
  rw [(isPt_iff _).2 h.part.1]
  have h1 : ¬ (inner.length : Int) > (rows.length : Int) := by omega
  simp only [if_true, decide_eq_false h1]
  refine Evs.succ ?_
  have h2 : slices_Clone_int_int.f inner = some inner := by unfold slices_Clone_int_int.f; rw [if_pos (by omega)]
  simp only [impl_ShapeOf.j0, Bool.false_eq_true, if_false, h2, Option.bind_some]
  exact shape_l0 h rows.length 0 (by omega)
theorem tab_l1 {outer inner : List Int} {rows : List (List Int)} (h : Full outer inner rows) (i : Nat) (hi : i < rows.length) (hnext : Evs (fun f => impl_IsTableau.l0 f rows (rows.length : Int) ((i + 1 : Nat) : Int) inner rows) true) : ∀ d j : Nat, j + d = (rows.getD i []).length →
    Evs (fun f => impl_IsTableau.l1 f (i : Int) (rows.getD i []) rows (rows.length : Int) (i : Int) (rows.getD i []) ((rows.getD i []).length : Int) (j : Int) inner rows) true
  | 0, j, e => by
    obtain ⟨hl, h9, hil⟩ := h.len
    have h1 : ¬ (j : Int) < ((rows.getD i []).length : Int) := by omega
    have e2 : wrap64 ((i : Int) + 1) = ((i + 1 : Nat) : Int) := by rw [w64 _ (by omega) (by omega)]; omega
    refine Evs.succ ?_
    simp only [impl_IsTableau.l1, if_neg h1, e2]
    exact hnext
  | d + 1, j, e => by
    obtain ⟨hl, h9, hil⟩ := h.len
    obtain ⟨k, hk, hg⟩ := h.k
    have hr9 := h.row i
    have hrs : ∀ r ∈ rows, r.length ≤ 4000000 := fun r hr => by
      obtain ⟨n, hn, rfl⟩ := List.getElem_of_mem hr
      have := h.row n
      rw [List.getD_eq_getElem?_getD, List.getElem?_eq_getElem hn, Option.getD_some] at this
      omega
    have h1 : (j : Int) < ((rows.getD i []).length : Int) := by omega
    have h0 : (0 : Int) ≤ (j : Int) := by omega
    have e2 : wrap64 ((j : Int) + 1) = ((j + 1 : Nat) : Int) := by rw [w64 _ (by omega) (by omega)]; omega
    have hx := hg.ent i _ (Gr.getD_mem (rows.getD i []) j 0 (by omega))
    have hw : (1 : Int) ≤ (rows.getD i []).getD j 0 ∧ (rows.getD i []).getD j 0 ≤ 9 := by omega
    have hi3 := getD_nn h.part.1 i
    have rest := tab_l1 h i hi hnext d (j + 1) (by omega)
    have hent : ∀ f : Nat, 0 < i → (impl_at.f inner (i : Int)).bind (fun t => (impl_Tableau_entry.f inner rows (wrap64 ((i : Int) - 1)) (wrap64 (t + (j : Int)))).bind fun t2 => if (rows.getD i []).getD j 0 ≤ t2 then some false else impl_IsTableau.l1 f (i : Int) (rows.getD i []) rows (rows.length : Int) (i : Int) (rows.getD i []) ((rows.getD i []).length : Int) ((j + 1 : Nat) : Int) inner rows) = impl_IsTableau.l1 f (i : Int) (rows.getD i []) rows (rows.length : Int) (i : Int) (rows.getD i []) ((rows.getD i []).length : Int) ((j + 1 : Nat) : Int) inner rows := by
      intro f h0i
      rw [at_nat inner i (by omega), Option.bind_some, w64 _ (by omega) (by omega), w64 _ (by omega) (by omega), impl_grow.entry_eq inner rows i _ (by omega) (by omega) (by omega) hrs (nn_of h.part.1) (by omega), Option.bind_some]
      have hs := hg.str i h0i j (by omega)
      rw [if_neg (by omega)]
    refine Evs.succ ?_
    simp only [impl_IsTableau.l1, if_pos h1, if_pos h0, rd_nat, within_eq, Option.bind_some, decide_eq_true hw, if_true, e2]
    by_cases hj : (j : Int) > 0
    · have e3 : wrap64 ((j : Int) - 1) = ((j - 1 : Nat) : Int) := by rw [w64 _ (by omega) (by omega)]; omega
      have h4 : (0 : Int) ≤ ((j - 1 : Nat) : Int) := by omega
      have h5 : ((j - 1 : Nat) : Int) < ((rows.getD i []).length : Int) := by omega
      have hwk : ¬ (rows.getD i []).getD j 0 < (rows.getD i []).getD (j - 1) 0 := by
        have hp := List.pairwise_iff_getElem.1 (hg.wk i) (j - 1) j (by omega) (by omega) (by omega)
        rw [List.getD_eq_getElem?_getD, List.getElem?_eq_getElem (by omega), List.getD_eq_getElem?_getD (i := j - 1), List.getElem?_eq_getElem (by omega), Option.getD_some, Option.getD_some]
        omega
      simp only [if_pos hj, e3, if_pos h4, if_pos h5, rd_nat, if_neg hwk]
      by_cases hi0 : (i : Int) > 0
      · simp only [if_pos hi0, hent _ (by omega)]
        exact rest
      · simp only [if_neg hi0]
        exact rest
    · simp only [if_neg hj]
      by_cases hi0 : (i : Int) > 0
      · simp only [if_pos hi0, hent _ (by omega)]
        exact rest
      · simp only [if_neg hi0]
        exact rest
theorem tab_l0 {outer inner : List Int} {rows : List (List Int)} (h : Full outer inner rows) : ∀ d i : Nat, i + d = rows.length → Evs (fun f => impl_IsTableau.l0 f rows (rows.length : Int) (i : Int) inner rows) true
  | 0, i, e => by
    have h1 : ¬ (i : Int) < (rows.length : Int) := by omega
    refine Evs.succ ?_
    simp only [impl_IsTableau.l0, if_neg h1]
    exact Evs.pure _
  | d + 1, i, e => by
    have h1 : (i : Int) < (rows.length : Int) := by omega
    have h0 : (0 : Int) ≤ (i : Int) := by omega
    refine Evs.succ ?_
    simp only [impl_IsTableau.l0, if_pos h1, if_pos h0, rdL_nat]
    exact tab_l1 h i (by omega) (tab_l0 h d (i + 1) (by omega)) (rows.getD i []).length 0 (by omega)
theorem tab_ev {outer inner : List Int} {rows : List (List Int)} (h : Full outer inner rows) : Evs (fun f => impl_IsTableau.f f inner rows) true := by
  unfold impl_IsTableau.f
  refine (shape_ev h).bind ?_
  simp only [if_true]
  exact tab_l0 h rows.length 0 (by omega)
def digB (x : Int) : ByteArray := ⟨#[Gr.digit x]⟩
theorem fmt_eq (x : Int) (h : 1 ≤ x ∧ x ≤ 9) : impl_FormatInt.f x = some (digB x) := by
  unfold impl_FormatInt.f strconv_Itoa_137.f
  rw [if_pos (by omega), Option.bind_some]
  have : Go.Lib.decDigits x.toNat = [Gr.digit x] := by
    rw [Go.Lib.decDigits, dif_pos (by omega)]; rfl
  rw [this]; rfl
theorem joined_l0 {r : ByteArray} (by_ : ByteArray) (l : List Int) (hl : l.length ≤ 1000) (hx : ∀ x ∈ l, 1 ≤ x ∧ x ≤ 9) : ∀ (rest pre : List Int), l = pre ++ rest → Evs (fun f => (impl_Join.f (l.map digB) by_)) r → Evs (fun f => impl_joined.l0 f by_ (pre.map digB) l (l.length : Int) (pre.length : Int)) r
  | [], pre, e, hr => by
    have h : ¬ (pre.length : Int) < (l.length : Int) := by rw [e]; simp
    refine Evs.succ ?_
    simp only [impl_joined.l0, if_neg h]
    rw [e, List.append_nil] at hr
    refine hr.bind (Evs.pure _)
  | x :: rest, pre, e, hr => by
    have hlen : pre.length < l.length := by rw [e]; simp
    have h2 : (pre.length : Int) < (l.length : Int) := by omega
    have h3 : (0 : Int) ≤ (pre.length : Int) := by omega
    have hrd : rd l (pre.length : Int) = x := by rw [e, rd_mid]
    have hxx := hx x (by rw [e]; simp)
    have h4 : (pre.map digB).length < 8796093022208 := by rw [List.length_map]; omega
    have e2 : wrap64 ((pre.length : Int) + 1) = ((pre ++ [x]).length : Int) := by rw [len_snoc]; exact w64 _ (by omega) (by omega)
    have e3 : pre.map digB ++ [digB x] = (pre ++ [x]).map digB := by simp
    refine Evs.succ ?_
    simp only [impl_joined.l0, if_pos h2, if_pos h3, hrd, fmt_eq x hxx, Option.bind_some, if_pos h4, e2, e3]
    exact joined_l0 by_ l hl hx rest (pre ++ [x]) (by rw [e]; simp) hr
theorem inter_nil : ∀ l : List (List UInt8), List.intercalate [] l = l.flatten
  | [] => rfl
  | [x] => by simp [List.intercalate, List.intersperse]
  | x :: y :: l => by
    rw [Gr.inter_cons, inter_nil (y :: l)]
    simp
theorem flat_dig : ∀ l : List Int, ((l.map digB).map fun b => b.data.toList).flatten = l.map Gr.digit
  | [] => rfl
  | x :: l => by
    rw [List.map_cons, List.map_cons, List.flatten_cons, flat_dig l]
    rfl
theorem joined_ev (l : List Int) (hl : l.length ≤ 1000) (hx : ∀ x ∈ l, 1 ≤ x ∧ x ≤ 9) : Evs (fun f => impl_joined.f f l ⟨#[]⟩) ⟨(l.map Gr.digit).toArray⟩ := by
  unfold impl_joined.f
  refine joined_l0 ⟨#[]⟩ l hl hx l [] rfl ?_
  have hj : Go.Lib.join ((l.map digB).map fun b => b.data.toList) (⟨#[]⟩ : ByteArray).data.toList = l.map Gr.digit := by
    show List.intercalate [] _ = _
    rw [inter_nil, flat_dig]
  refine Evs.of fun _ => ?_
  unfold impl_Join.f strings_Join.f
  rw [hj, if_pos ⟨by rw [List.length_map]; omega, by rw [List.length_map]; omega⟩]
  rfl
theorem repeatL_one (c : UInt8) : ∀ n, Go.Lib.repeatL [c] n = List.replicate n c
  | 0 => rfl
  | n + 1 => by rw [List.replicate_succ, ← repeatL_one c n]; rfl
def lineB (inner : List Int) (rows : List (List Int)) (i : Nat) : ByteArray := (⟨(List.replicate (inner.getD i 0).toNat (46 : UInt8)).toArray⟩ : ByteArray) ++ ⟨((rows.getD i []).map Gr.digit).toArray⟩
theorem lineB_data (inner : List Int) (rows : List (List Int)) (i : Nat) : (lineB inner rows i).data.toList = Gr.line inner i (rows.getD i []) := by
  unfold lineB Gr.line
  rw [ByteArray.data_append]
  simp
theorem text_l0 {outer inner : List Int} {rows : List (List Int)} (h : Full outer inner rows) : ∀ d i : Nat, i + d = rows.length →
    Evs (fun f => impl_TableauText.l0 f ((List.range i).map (lineB inner rows)) rows (rows.length : Int) (i : Int) inner rows) ⟨(List.intercalate [47] (Gr.lines inner rows)).toArray⟩
  | 0, i, e => by
    obtain ⟨hl, h9, hil⟩ := h.len
    have h1 : ¬ (i : Int) < (rows.length : Int) := by omega
    have hi : i = rows.length := by omega
    refine Evs.succ ?_
    simp only [impl_TableauText.l0, if_neg h1]
    refine Evs.of fun _ => ?_
    have hm : ((List.range i).map (lineB inner rows)).map (fun b => b.data.toList) = Gr.lines inner rows := by
      rw [List.map_map, hi]
      unfold Gr.lines
      apply List.map_congr_left
      intro j _
      exact lineB_data inner rows j
    have hj : Go.Lib.join (((List.range i).map (lineB inner rows)).map fun b => b.data.toList) (⟨#[47]⟩ : ByteArray).data.toList = List.intercalate [47] (Gr.lines inner rows) := by rw [hm]; rfl
    have hlen : ∀ l : List (List UInt8), (∀ x ∈ l, x.length ≤ 100) → (List.intercalate [47] l).length ≤ 101 * l.length := by
      intro l
      induction l with
      | nil => intro _; simp [List.intercalate]
      | cons x l ih =>
        intro hx
        have h1 := hx x (List.mem_cons_self ..)
        cases l with
        | nil => simp [List.intercalate, List.intersperse]; omega
        | cons y l =>
          have h2 := ih fun z hz => hx z (List.mem_cons_of_mem _ hz)
          rw [Gr.inter_cons]
          simp only [List.length_append, List.length_cons, List.length_nil] at h2 ⊢
          omega
    have hll := hlen (Gr.lines inner rows) (fun x hx => by
      unfold Gr.lines at hx
      obtain ⟨j, _, rfl⟩ := List.mem_map.1 hx
      unfold Gr.line
      have a1 := (getD_nn h.part.1 j).2
      have a2 := h.row j
      simp only [List.length_append, List.length_replicate, List.length_map]
      omega)
    unfold impl_Join.f strings_Join.f
    rw [hj, if_pos ⟨by simp; omega, by unfold Gr.lines at hll; rw [List.length_map, List.length_range] at hll; unfold Gr.lines; omega⟩]
    rfl
  | d + 1, i, e => by
    obtain ⟨hl, h9, hil⟩ := h.len
    obtain ⟨k, hk, hg⟩ := h.k
    have h1 : (i : Int) < (rows.length : Int) := by omega
    have h0 : (0 : Int) ≤ (i : Int) := by omega
    have hi3 := getD_nn h.part.1 i
    have hr9 := h.row i
    have e2 : wrap64 ((i : Int) + 1) = ((i + 1 : Nat) : Int) := by rw [w64 _ (by omega) (by omega)]; omega
    have hrep : strings_Repeat.f (⟨#[46]⟩ : ByteArray) (inner.getD i 0) = some ⟨(List.replicate (inner.getD i 0).toNat (46 : UInt8)).toArray⟩ := by
      unfold strings_Repeat.f
      rw [if_pos ⟨hi3.1, by omega, by show 1 * _ ≤ _; omega⟩]
      rw [show (⟨#[46]⟩ : ByteArray).data.toList = [46] from rfl, repeatL_one]
    have h5 : (⟨(List.replicate (inner.getD i 0).toNat (46 : UInt8)).toArray⟩ : ByteArray).size + (⟨((rows.getD i []).map Gr.digit).toArray⟩ : ByteArray).size ≤ 9223372036854775807 := by
      simp only [ByteArray.size, List.size_toArray, List.length_replicate, List.length_map]; omega
    have h6 : ((List.range i).map (lineB inner rows)).length < 8796093022208 := by simp; omega
    have e3 : (List.range i).map (lineB inner rows) ++ [lineB inner rows i] = (List.range (i + 1)).map (lineB inner rows) := by rw [List.range_succ]; simp
    refine Evs.succ ?_
    simp only [impl_TableauText.l0, if_pos h1, if_pos h0, at_nat inner i (by omega), Option.bind_some, hrep, rdL_nat]
    refine (joined_ev (rows.getD i []) (by omega) (fun x hx => by have := hg.ent i x hx; omega)).bind ?_
    simp only [if_pos h5, if_pos h6, e2]
    rw [show (⟨(List.replicate (inner.getD i 0).toNat (46 : UInt8)).toArray⟩ : ByteArray) ++ ⟨((rows.getD i []).map Gr.digit).toArray⟩ = lineB inner rows i from rfl, e3]
    exact text_l0 h d (i + 1) (by omega)
theorem text_ev {outer inner : List Int} {rows : List (List Int)} (h : Full outer inner rows) : Evs (fun f => impl_TableauText.f f inner rows) ⟨(Gr.txt inner rows).toArray⟩ := by
  unfold impl_TableauText.f
  refine (tab_ev h).bind ?_
  simp only [if_true]
  by_cases h0 : (rows.length : Int) = 0
  · simp only [if_pos h0]
    have : rows = [] := List.eq_nil_of_length_eq_zero (by omega)
    subst this
    exact Evs.pure _
  · simp only [if_neg h0]
    have hne : rows ≠ [] := fun e => h0 (by rw [e]; rfl)
    unfold Gr.txt
    rw [if_neg hne]
    exact text_l0 h rows.length 0 (by omega)
end Go.Proofs.YtppkfgcnmaifmaaGreatDoor.Hb
namespace Go.Proofs.YtppkfgcnmaifmaaGreatDoor.Hb
open Go.RowKit Go.Proofs.YtppkfgcnmaifmaaGreatDoorW.PrintWords Go.Proofs.YtppkfgcnmaifmaaGreatDoorW.PrintLast Go.Proofs.YtppkfgcnmaifmaaGreatDoorW.PrintMore
attribute [local go_sem] max2_int min2_int max_two min_two max_three min_three max_four min_four
set_option linter.unusedVariables false
set_option linter.unusedSimpArgs false
open Pu
theorem putL_small {B : Nat} (fin : List (List Int) → List (List (List Int))) (outer inner : List Int) (ho : outer.length ≤ 9) (k : Int) (hf : ∀ rows, (fin rows).length ≤ B) : ∀ (left : Nat) (rows : List (List Int)) (row : Nat), (Gr.putL fin outer inner k left rows row).length ≤ 9 ^ left * B
  | 0, rows, _ => by
    rw [Nat.pow_zero, Nat.one_mul]
    exact hf rows
  | left + 1, rows, row => by
    unfold Gr.putL
    rw [List.length_flatMap]
    have h : ∀ l : List Nat, (l.map fun i => (if Gr.skip outer inner rows k i = true then [] else Gr.putL fin outer inner k left (rows.set i (rows.getD i [] ++ [k])) i).length).sum ≤ l.length * (9 ^ left * B) := by
      intro l
      induction l with
      | nil => simp
      | cons i l ih =>
        rw [List.map_cons, List.sum_cons, List.length_cons, Nat.succ_mul]
        have : (if Gr.skip outer inner rows k i = true then [] else Gr.putL fin outer inner k left (rows.set i (rows.getD i [] ++ [k])) i).length ≤ 9 ^ left * B := by
          split
          · simp
          · exact putL_small fin outer inner ho k hf left _ _
        omega
    have h1 := h (List.range' row (outer.length - row))
    rw [List.length_range'] at h1
    refine Nat.le_trans h1 ?_
    rw [Nat.pow_succ, Nat.mul_comm (9 ^ left) 9, Nat.mul_assoc]
    exact Nat.mul_le_mul_right _ (by omega)
theorem growL_small (outer inner : List Int) (ho : outer.length ≤ 9) : ∀ (ws : List Int) (rows : List (List Int)) (k : Int), (Gr.growL outer inner ws rows k).length ≤ 9 ^ (ws.map Int.toNat).sum
  | [], rows, k => by simp [Gr.growL]
  | w :: ws, rows, k => by
    unfold Gr.growL
    have h := putL_small (B := 9 ^ (ws.map Int.toNat).sum) (fun rows => Gr.growL outer inner ws rows (k + 1)) outer inner ho k (fun rows => growL_small outer inner ho ws rows (k + 1)) w.toNat rows 0
    rw [List.map_cons, List.sum_cons, Nat.pow_add]
    exact h
structure Fills (outer inner ws : List Int) : Prop where
  inn : inside inner outer = true
  len : ws.length ≤ 9
  nn : ∀ x ∈ ws, 0 ≤ x
  sum : ws.sum = outer.sum - inner.sum
theorem Fills.start {outer inner ws : List Int} (h : Fills outer inner ws) : Gr.Good outer inner (List.replicate outer.length []) 1 := by
  obtain ⟨h1, h2, h3⟩ := (inside_iff _ _).1 h.inn
  exact Gr.good_start (inside_len h1 h3) (fun x hx => by have := h1.pos x hx; omega) h1.dec' h3
theorem Fills.total {outer inner ws : List Int} (h : Fills outer inner ws) : (ws.map Int.toNat).sum ≤ 9 ∧ (((ws.map Int.toNat).sum : Nat) : Int) = outer.sum - inner.sum := by
  obtain ⟨h1, h2, h3⟩ := (inside_iff _ _).1 h.inn
  have e := Gr.toNat_sum ws h.nn
  have a1 := h2.sum
  have a2 := sum_ge inner h1.pos
  have a3 := h.sum
  exact ⟨by omega, by omega⟩
theorem Fills.full {outer inner ws : List Int} (h : Fills outer inner ws) : ∀ r ∈ impl_tableaux.all outer inner ws, Full outer inner r := fun r hr => by
  obtain ⟨g, c⟩ := Gr.growL_good ws _ 1 h.start r hr
  rw [Gr.cells_start] at c
  have ht := h.total.2
  exact ⟨⟨_, by have := h.len; omega, g⟩, Gr.good_full g (by omega), h.inn⟩
theorem nil_full : Full [] [] [] := by
  refine ⟨⟨1, by omega, ⟨rfl, Nat.le_refl _, ?_, ?_, Int.le_refl _, ?_, ?_, ?_, ?_, ?_⟩⟩, ?_, by decide⟩
  · intro x h; cases h
  · intro i; simp
  · intro i h; simp at h
  · intro i h; simp at h
  · intro i x h; simp at h
  · intro i; simp
  · intro i _ j h; simp at h
  · intro i h; simp at h
theorem tableaux_fine {outer inner ws : List Int} (h : Fills outer inner ws) : ∃ K, ∀ k, K ≤ k → impl_tableaux.fine k outer inner ws = true := by
  obtain ⟨h1, h2, h3⟩ := (inside_iff _ _).1 h.inn
  obtain ⟨K1, hK1⟩ := text_ev nil_full
  obtain ⟨K2, hK2⟩ := Evs.all (g := fun r f => impl_TableauText.f f inner r) (f := fun r => ⟨(Gr.txt inner r).toArray⟩) (impl_tableaux.all outer inner ws) fun r hr => text_ev (h.full r hr)
  refine ⟨max K1 K2, fun k hk => ?_⟩
  have ht := h.total
  unfold impl_tableaux.fine
  simp only [Bool.and_eq_true, List.all_eq_true, decide_eq_true_eq]
  refine ⟨⟨⟨⟨⟨⟨⟨⟨nn_of h2, nn_of h1⟩, ?_⟩, ?_⟩, h.nn⟩, ?_⟩, ?_⟩, ?_⟩, ⟨?_, ?_⟩, ?_⟩
  · have := h2.len; omega
  · have := h1.len; omega
  · have := h.len; omega
  · unfold impl_grow.total; omega
  · have h4 := growL_small outer inner h2.len ws (List.replicate outer.length []) 1
    have h5 : 9 ^ (ws.map Int.toNat).sum ≤ 9 ^ 9 := Nat.pow_le_pow_right (by decide) ht.1
    have h6 : 9 ^ 9 < 2000000000 := by decide
    exact Nat.lt_of_le_of_lt (Nat.le_trans h4 h5) h6
  · have e1 : impl_TableauText.f k [] [] = _ := hK1 k (by omega)
    rw [e1]; rfl
  · intro r hr
    have e2 : impl_TableauText.f k inner r = _ := hK2 k (by omega) r hr
    rw [e2]; rfl
  · exact Gr.txts_nodup ws h.len h.nn h.start h.sum
theorem tableaux_ev {outer inner ws : List Int} (h : Fills outer inner ws) (hw : ∀ x ∈ ws, x ≤ 9) : Evs (fun f => impl_tableaux.f f outer inner ws) (impl_tableaux.sorted outer inner ws) := by
  obtain ⟨h1, h2, h3⟩ := (inside_iff _ _).1 h.inn
  have a1 := h1.len
  have a2 := h2.len
  have a3 := h.len
  unfold impl_tableaux.f
  refine (sum_ev ws (by omega) (fun x hx => ⟨h.nn x hx, hw x hx⟩)).bind ((count_ev outer inner (by omega) (by omega)).bind ?_)
  rw [if_pos h.inn]
  have hne : ¬ ws.sum ≠ outer.sum - inner.sum := by rw [h.sum]; simp
  simp only [if_neg hne]
  obtain ⟨K, hK⟩ := tableaux_fine h
  exact ⟨K, fun k hk => if_pos (hK k hk)⟩
theorem tableaux_none {outer inner ws : List Int} (hi : inside inner outer = true) (hl : ws.length ≤ 9) (hw : ∀ x ∈ ws, 0 ≤ x ∧ x ≤ 9) (hs : ws.sum ≠ outer.sum - inner.sum) : Evs (fun f => impl_tableaux.f f outer inner ws) [] := by
  obtain ⟨h1, h2, h3⟩ := (inside_iff _ _).1 hi
  have a1 := h1.len
  have a2 := h2.len
  unfold impl_tableaux.f
  refine (sum_ev ws (by omega) hw).bind ((count_ev outer inner (by omega) (by omega)).bind ?_)
  rw [if_pos hi]
  simp only [if_pos hs]
  exact Evs.pure _
theorem sorted_length (outer inner ws : List Int) : (impl_tableaux.sorted outer inner ws).length = (impl_tableaux.all outer inner ws).length := by
  unfold impl_tableaux.sorted
  rw [List.length_map, List.length_mergeSort]
end Go.Proofs.YtppkfgcnmaifmaaGreatDoor.Hb
namespace Go.Proofs.YtppkfgcnmaifmaaGreatDoor.Hb
open Go.RowKit Go.Proofs.YtppkfgcnmaifmaaGreatDoorW.PrintWords Go.Proofs.YtppkfgcnmaifmaaGreatDoorW.PrintLast Go.Proofs.YtppkfgcnmaifmaaGreatDoorW.PrintMore
attribute [local go_sem] max2_int min2_int max_two min_two max_three min_three max_four min_four
set_option linter.unusedVariables false
set_option linter.unusedSimpArgs false
open Pu
theorem sum_ones (m : Nat) : (List.replicate m (1 : Int)).sum = m := by
  induction m with
  | zero => rfl
  | succ m ih => rw [List.replicate_succ, List.sum_cons, ih]; omega
theorem ones_fills {outer inner : List Int} (h : inside inner outer = true) : Fills outer inner (List.replicate (outer.sum - inner.sum).toNat 1) ∧ 0 ≤ outer.sum - inner.sum ∧ outer.sum - inner.sum ≤ 9 := by
  obtain ⟨h1, h2, h3⟩ := (inside_iff _ _).1 h
  have a1 := h2.sum
  have a2 := sum_ge inner h1.pos
  have a3 := sum_le_of inner outer h3
  refine ⟨⟨h, by rw [List.length_replicate]; omega, fun x hx => by rw [(List.mem_replicate.1 hx).2]; omega, by rw [sum_ones]; omega⟩, by omega, by omega⟩
theorem ptn_start {outer inner : List Int} (h : inside inner outer = true) : Gr.ptn outer inner (List.replicate outer.length []) = inner := by
  obtain ⟨h1, h2, h3⟩ := (inside_iff _ _).1 h
  have hg := (ones_fills h).1.start
  refine Part.ext (Gr.ptn_part h2 hg) h1 fun i => ?_
  rw [Gr.ptn_getD hg]
  by_cases hi : i < outer.length
  · rw [if_pos hi]
    unfold Gr.col
    rw [Gr.atL_nat]
    simp [List.getD, hi]
  · rw [if_neg hi]
    have := inside_len h1 h3
    rw [getD_out inner i (by omega)]
theorem toInt_l0 (l : List Int) (hl : l.length ≤ 10000000) : ∀ (rest pre : List Int), l = pre ++ rest → Evs (fun f => laws_toIntS.l0 f l (pre ++ List.replicate rest.length 0) (pre.length : Int)) l
  | [], pre, e => by
    have h : ¬ (pre.length : Int) < (l.length : Int) := by rw [e]; simp
    refine Evs.succ ?_
    simp only [laws_toIntS.l0, if_neg h]
    exact (Evs.pure _).same (by rw [e]; simp)
  | x :: rest, pre, e => by
    have hlen : pre.length < l.length := by rw [e]; simp
    have h2 : (pre.length : Int) < (l.length : Int) := by omega
    have h3 : (0 : Int) ≤ (pre.length : Int) := by omega
    have h4 : (pre.length : Int) < ((pre ++ List.replicate (x :: rest).length 0).length : Int) := by simp; omega
    have hrd : rd l (pre.length : Int) = x := by rw [e, rd_mid]
    have e2 : wrap64 ((pre.length : Int) + 1) = ((pre ++ [x]).length : Int) := by rw [len_snoc]; exact w64 _ (by omega) (by omega)
    have e3 : (pre ++ List.replicate (x :: rest).length 0).set ((pre.length : Int) : Int).toNat x = (pre ++ [x]) ++ List.replicate rest.length 0 := by
      rw [Int.toNat_natCast, List.set_append_right _ _ (Nat.le_refl _), Nat.sub_self, List.length_cons, List.replicate_succ, List.set_cons_zero]
      simp
    refine Evs.succ ?_
    simp only [laws_toIntS.l0, if_pos h2, if_pos h3, if_pos h4, hrd, e2, e3]
    exact toInt_l0 l hl rest (pre ++ [x]) (by rw [e]; simp)
theorem toInt_ev (l : List Int) (hl : l.length ≤ 10000000) : Evs (fun f => laws_toIntS.f f l) l := by
  have h1 : (0 : Int) ≤ (l.length : Int) := by omega
  have h2 : ((l.length : Int) : Int).toNat ≤ 35184372088832 := by omega
  unfold laws_toIntS.f
  simp only [if_pos h1, if_pos h2]
  rw [Int.toNat_natCast]
  exact toInt_l0 l hl l [] rfl
theorem eqInt_l0 (l : List Int) (hl : l.length ≤ 10000000) : ∀ d i : Nat, i + d = l.length → Evs (fun f => laws_eqIntS.l0 f l l (i : Int)) true
  | 0, i, e => by
    have h : ¬ (i : Int) < (l.length : Int) := by omega
    refine Evs.succ ?_
    simp only [laws_eqIntS.l0, if_neg h]
    exact Evs.pure _
  | d + 1, i, e => by
    have h2 : (i : Int) < (l.length : Int) := by omega
    have h3 : (0 : Int) ≤ (i : Int) := by omega
    have e2 : wrap64 ((i : Int) + 1) = ((i + 1 : Nat) : Int) := by rw [w64 _ (by omega) (by omega)]; omega
    refine Evs.succ ?_
    simp only [laws_eqIntS.l0, if_pos h2, if_pos h3, if_true, e2]
    exact eqInt_l0 l hl d (i + 1) (by omega)
theorem eqInt_ev (l : List Int) (hl : l.length ≤ 10000000) : Evs (fun f => laws_eqIntS.f f l l) true := by
  unfold laws_eqIntS.f
  simp only [if_true]
  exact eqInt_l0 l hl l.length 0 (by omega)
end Go.Proofs.YtppkfgcnmaifmaaGreatDoor.Hb
namespace Gr
open Pu
theorem ways_small : ∀ (cs : List Nat) (n : Nat), (∀ c ∈ cs, c ≤ 9) → (ways cs n).length ≤ 10 ^ cs.length
  | [], n, _ => by unfold ways; split <;> simp
  | c :: cs, n, h => by
    unfold ways
    rw [List.length_flatMap]
    have hc := h c (List.mem_cons_self ..)
    have key : ∀ l : List Nat, (l.map fun x => ((ways cs (n - x)).map (x :: ·)).length).sum ≤ l.length * 10 ^ cs.length := by
      intro l
      induction l with
      | nil => simp
      | cons x l ih =>
        rw [List.map_cons, List.sum_cons, List.length_cons, Nat.succ_mul, List.length_map]
        have := ways_small cs (n - x) fun d hd => h d (List.mem_cons_of_mem _ hd)
        omega
    have h1 := key (List.range (min c n + 1))
    rw [List.length_range] at h1
    refine Nat.le_trans h1 ?_
    rw [List.length_cons, Nat.pow_succ, Nat.mul_comm]
    exact Nat.mul_le_mul_left _ (by omega)
def addw (p : List Int) : Nat → List Nat → List Int
  | _, [] => []
  | row, a :: as_ => (p.getD row 0 + a) :: addw p (row + 1) as_
theorem addw_length (p : List Int) : ∀ (row : Nat) (a : List Nat), (addw p row a).length = a.length
  | _, [] => rfl
  | row, a :: as_ => by simp [addw, addw_length p (row + 1) as_]
theorem addw_getD (p : List Int) : ∀ (row : Nat) (a : List Nat) (j : Nat), j < a.length → (addw p row a).getD j 0 = p.getD (row + j) 0 + (a.getD j 0 : Nat)
  | row, a :: as_, 0, _ => by simp [addw]
  | row, a :: as_, j + 1, h => by
    have := addw_getD p (row + 1) as_ j (by simpa using h)
    simp only [addw, List.getD_cons_succ]
    rw [this, show row + 1 + j = row + (j + 1) by omega]
def capP (p outer : List Int) (i : Nat) : Nat := ((if 0 < i then min (outer.getD i 0) (p.getD (i - 1) 0) else outer.getD i 0) - p.getD i 0).toNat
def capsP (p outer : List Int) (row : Nat) : List Nat := (List.range' row (outer.length - row)).map (capP p outer)
theorem capsP_cons (p outer : List Int) (row : Nat) (h : row < outer.length) : capsP p outer row = capP p outer row :: capsP p outer (row + 1) := by
  unfold capsP
  rw [show outer.length - row = (outer.length - (row + 1)) + 1 by omega, List.range'_succ, List.map_cons]
theorem capsP_nil (p outer : List Int) (row : Nat) (h : outer.length ≤ row) : capsP p outer row = [] := by
  unfold capsP
  rw [show outer.length - row = 0 by omega]; rfl
theorem capsP_length (p outer : List Int) (row : Nat) : (capsP p outer row).length = outer.length - row := by unfold capsP; simp
theorem capP_le {p outer : List Int} (hp : Part p) (ho : Part outer) (i : Nat) : capP p outer i ≤ 9 := by
  have h1 := getD_nn ho i
  have h2 := getD_nn hp i
  have h3 := getD_nn hp (i - 1)
  unfold capP
  split <;> omega
theorem capsP_le {p outer : List Int} (hp : Part p) (ho : Part outer) (row : Nat) : ∀ c ∈ capsP p outer row, c ≤ 9 := fun c hc => by
  unfold capsP at hc
  obtain ⟨i, _, rfl⟩ := List.mem_map.1 hc
  exact capP_le hp ho i
theorem capP_eq {outer inner : List Int} {rows : List (List Int)} {k : Int} (hg : Good outer inner rows k) (i : Nat) (hi : i < outer.length) : capP (ptn outer inner rows) outer i = cap outer inner rows i := by
  have e1 := ptn_getD hg i
  rw [if_pos hi] at e1
  unfold capP cap
  rw [e1]
  by_cases h0 : 0 < i
  · have e2 := ptn_getD hg (i - 1)
    rw [if_pos (by omega)] at e2
    rw [if_pos h0, if_pos h0, e2]
  · rw [if_neg h0, if_neg h0]
theorem capsP_eq {outer inner : List Int} {rows : List (List Int)} {k : Int} (hg : Good outer inner rows k) : capsP (ptn outer inner rows) outer 0 = caps outer inner rows 0 := by
  unfold capsP caps
  apply List.map_congr_left
  intro i hi
  have := List.mem_range'_1.1 hi
  exact capP_eq hg i (by omega)
theorem addw_cols {outer inner : List Int} {rows : List (List Int)} {k : Int} (hg : Good outer inner rows k) (a : List Nat) (ha : a ∈ ways (caps outer inner rows 0) a.sum) :
    addw (ptn outer inner rows) 0 a = cols outer inner (ext k 0 rows a) := by
  obtain ⟨h2, h3⟩ := caps_le ha
  have hl : ((addw (ptn outer inner rows) 0 a)).length = outer.length := by rw [addw_length]; exact h2
  apply List.ext_getElem
  · rw [hl]; simp [cols]
  · intro j h4 h5
    have e1 := addw_getD (ptn outer inner rows) 0 a j (by rw [hl] at h4; omega)
    rw [List.getD_eq_getElem?_getD, List.getElem?_eq_getElem h4, Option.getD_some, Nat.zero_add, ptn_getD hg, if_pos (by rw [hl] at h4; exact h4)] at e1
    have e2 : (cols outer inner (ext k 0 rows a))[j] = col inner (ext k 0 rows a) j := by simp [cols]
    have e3 : col inner (ext k 0 rows a) j = col inner rows j + (a.getD j 0 : Nat) := by
      have := ext_getD k a 0 rows j (by rw [hg.len]; omega)
      exact col_put (by simpa using this)
    rw [e1, e2, e3]
theorem cols_nn {outer inner : List Int} {rows : List (List Int)} {k : Int} (hg : Good outer inner rows k) : (∀ x ∈ cols outer inner rows, 0 ≤ x) ∧ ∀ i : Nat, (cols outer inner rows).getD (i + 1) 0 ≤ (cols outer inner rows).getD i 0 := by
  refine ⟨fun x hx => ?_, fun j => ?_⟩
  · unfold cols at hx
    obtain ⟨j, _, rfl⟩ := List.mem_map.1 hx
    exact col_nonneg hg j
  · rw [cols_getD, cols_getD]
    by_cases h : j + 1 < outer.length
    · rw [if_pos h, if_pos (by omega)]; exact hg.dec j h
    · rw [if_neg h]
      split
      · exact col_nonneg hg j
      · omega
theorem cols_length (outer inner : List Int) (rows : List (List Int)) : (cols outer inner rows).length = outer.length := by simp [cols]
theorem filt_split : ∀ (l : List Int), (∀ x ∈ l, 0 ≤ x) → (∀ i : Nat, l.getD (i + 1) 0 ≤ l.getD i 0) → ∃ z : Nat, l = (l.filter fun x => decide (0 < x)) ++ List.replicate z 0
  | [], _, _ => ⟨0, rfl⟩
  | x :: l, h0, hd => by
    have h0' : ∀ y ∈ l, 0 ≤ y := fun y hy => h0 y (List.mem_cons_of_mem _ hy)
    have hd' : ∀ i : Nat, l.getD (i + 1) 0 ≤ l.getD i 0 := fun i => by have := hd (i + 1); simpa using this
    obtain ⟨z, hz⟩ := filt_split l h0' hd'
    by_cases hx : 0 < x
    · rw [List.filter_cons_of_pos (by simpa using hx)]
      exact ⟨z, by rw [List.cons_append, ← hz]⟩
    · have h1 := h0 x (List.mem_cons_self ..)
      have hx0 : x = 0 := by omega
      subst hx0
      rw [List.filter_cons_of_neg (by simp)]
      have hzz : ∀ i : Nat, l.getD i 0 ≤ 0 := by
        intro i
        induction i with
        | zero => have := hd 0; simp at this ⊢; omega
        | succ i ih => have := hd' i; omega
      have he : l.filter (fun x => decide (0 < x)) = [] := by
        rw [List.filter_eq_nil_iff]
        intro y hy
        obtain ⟨i, hi, rfl⟩ := List.getElem_of_mem hy
        have := hzz i
        rw [List.getD_eq_getElem?_getD, List.getElem?_eq_getElem hi, Option.getD_some] at this
        simpa using this
      rw [he] at hz ⊢
      exact ⟨z + 1, by rw [List.replicate_succ, List.nil_append]; congr 1⟩
theorem room_ext {outer inner : List Int} {rows : List (List Int)} {k : Int} (hg : Good outer inner rows k) (a : List Nat) (ha : a ∈ ways (caps outer inner rows 0) a.sum) :
    room outer inner (ext k 0 rows a) = room outer inner rows - (a.sum : Nat) := by
  obtain ⟨h2, h3⟩ := caps_le ha
  have hg2 := good_ext hg a h2 h3
  unfold room
  rw [ptn_sum hg, ptn_sum hg2, ext_cells k a 0 rows (by rw [hg.len]; omega)]
  omega
end Gr
namespace Go.Proofs.YtppkfgcnmaifmaaGreatDoor.Hb
open Go.RowKit Go.Proofs.YtppkfgcnmaifmaaGreatDoorW.PrintWords Go.Proofs.YtppkfgcnmaifmaaGreatDoorW.PrintLast Go.Proofs.YtppkfgcnmaifmaaGreatDoorW.PrintMore
attribute [local go_sem] max2_int min2_int max_two min_two max_three min_three max_four min_four
set_option linter.unusedVariables false
set_option linter.unusedSimpArgs false
open Pu
theorem rdL_mid (pre : List (List Int)) (x : List Int) (rest : List (List Int)) : rd_L3 (pre ++ x :: rest) (pre.length : Int) = x := by simp [rd_L3]
theorem at2_nat (l : List Int) (i : Nat) : spec_l2At.f l (i : Int) = some (l.getD i 0) := by
  unfold spec_l2At.f
  rw [if_neg (by omega)]
  by_cases h : (i : Int) ≥ (l.length : Int)
  · rw [if_pos h]
    simp [List.getD, show l.length ≤ i by omega]
  · rw [if_neg h, if_pos (by omega), if_pos (by omega), rd_nat]
theorem strips_l1 (p outer : List Int) (n row most x : Int) (R : List (List Int)) : ∀ (todo pre out : List (List Int)), pre.length + todo.length ≤ 5000000000 → out.length + todo.length ≤ 5000000000 → (∀ t ∈ todo, t.length ≤ 1000) →
    Evs (fun f => spec_l7Strips.l0 f p outer n row (out ++ todo.map (x :: ·)) most (wrap64 (x + 1))) R → Evs (fun f => spec_l7Strips.l1 f p outer n row out most x (pre ++ todo) (pre.length : Int)) R
  | [], pre, out, _, _, _, hR => by
    have h : ¬ (pre.length : Int) < ((pre ++ ([] : List (List Int))).length : Int) := by simp
    refine Evs.succ ?_
    simp only [spec_l7Strips.l1, if_neg h]
    simpa using hR
  | t :: todo, pre, out, h1, h2, h3, hR => by
    have hlen : (pre ++ t :: todo).length = pre.length + todo.length + 1 := by simp; omega
    have h : (pre.length : Int) < ((pre ++ t :: todo).length : Int) := by omega
    have h0 : (0 : Int) ≤ (pre.length : Int) := by omega
    have ht : ([x] : List Int).length + t.length < 17592186044416 := by
      have := h3 t (List.mem_cons_self ..)
      simp only [List.length_cons, List.length_nil]; omega
    rw [List.length_cons] at h1 h2
    have hout : out.length < 5864062014805 := by omega
    have e2 : wrap64 ((pre.length : Int) + 1) = ((pre ++ [t]).length : Int) := by
      rw [w64 _ (by omega) (by omega)]; simp
    refine Evs.succ ?_
    simp only [spec_l7Strips.l1, if_pos h, Option.bind_some, if_pos h0, rdL_mid, if_pos ht, if_pos hout, e2]
    rw [snoc pre t todo]
    refine strips_l1 p outer n row most x R todo (pre ++ [t]) _ (by simp; omega) (by simp; omega) (fun u hu => h3 u (List.mem_cons_of_mem _ hu)) ?_
    simpa using hR
theorem strips_l0 (p outer : List Int) (n row c : Nat) (hp : 0 ≤ p.getD row 0 ∧ p.getD row 0 ≤ 9) (hc : c ≤ 9) (hn : n ≤ 1000) (hrow : row ≤ 1000) (rest : Nat → List (List Int))
    (hr : ∀ a, a ≤ c → a ≤ n → Evs (fun f => spec_l7Strips.f f p outer ((n - a : Nat) : Int) ((row + 1 : Nat) : Int)) (rest a)) (hl : ∀ a, ∀ t ∈ rest a, t.length ≤ 1000) (hs : ∀ a, (rest a).length ≤ 100000000) :
    ∀ (d a : Nat) (out : List (List Int)), a + d = min c n + 1 → out.length + d * 100000000 ≤ 2000000000 →
      Evs (fun f => spec_l7Strips.l0 f p outer (n : Int) (row : Int) out (p.getD row 0 + (c : Int)) (p.getD row 0 + (a : Int))) (out ++ (List.range' a d).flatMap fun b => (rest b).map fun t => (p.getD row 0 + (b : Int)) :: t)
  | 0, a, out, h, _ => by
    rw [List.range'_zero, List.flatMap_nil, List.append_nil]
    by_cases hac : a ≤ c
    · have h1 : p.getD row 0 + (a : Int) ≤ p.getD row 0 + (c : Int) := by omega
      have h2 : wrap64 (p.getD row 0 + (a : Int) - p.getD row 0) = (a : Int) := by rw [w64 _ (by omega) (by omega)]; omega
      have h3 : decide ((a : Int) ≤ (n : Int)) = false := decide_eq_false (by omega)
      refine Evs.succ (Evs.succ ?_)
      simp only [spec_l7Strips.l0, spec_l7Strips.j2, if_pos h1, at2_nat, Option.bind_some, h2, h3, Bool.false_eq_true, if_false]
      exact Evs.pure _
    · have h1 : ¬ p.getD row 0 + (a : Int) ≤ p.getD row 0 + (c : Int) := by omega
      refine Evs.succ (Evs.succ ?_)
      simp only [spec_l7Strips.l0, spec_l7Strips.j2, if_neg h1, Bool.false_eq_true, if_false]
      exact Evs.pure _
  | d + 1, a, out, h, hz => by
    have hac : a ≤ c := by omega
    have han : a ≤ n := by omega
    have h1 : p.getD row 0 + (a : Int) ≤ p.getD row 0 + (c : Int) := by omega
    have h2 : wrap64 (p.getD row 0 + (a : Int) - p.getD row 0) = (a : Int) := by rw [w64 _ (by omega) (by omega)]; omega
    have h3 : decide ((a : Int) ≤ (n : Int)) = true := decide_eq_true (by omega)
    have h4 : wrap64 (wrap64 ((n : Int) - (p.getD row 0 + (a : Int))) + p.getD row 0) = ((n - a : Nat) : Int) := by
      rw [w64 ((n : Int) - _) (by omega) (by omega), w64 _ (by omega) (by omega)]; omega
    have h5 : wrap64 ((row : Int) + 1) = ((row + 1 : Nat) : Int) := by rw [w64 _ (by omega) (by omega)]; omega
    have h6 : wrap64 (p.getD row 0 + (a : Int) + 1) = p.getD row 0 + ((a + 1 : Nat) : Int) := by rw [w64 _ (by omega) (by omega)]; omega
    have hsa := hs a
    refine Evs.succ (Evs.succ ?_)
    simp only [spec_l7Strips.l0, spec_l7Strips.j2, if_pos h1, at2_nat, Option.bind_some, h2, h3, if_true, h4, h5]
    refine (hr a hac han).bind ?_
    refine strips_l1 p outer (n : Int) (row : Int) _ _ _ (rest a) [] out (by simp; omega) (by omega) (hl a) ?_
    rw [h6]
    refine (strips_l0 p outer n row c hp hc hn hrow rest hr hl hs d (a + 1) (out ++ (rest a).map (fun t => (p.getD row 0 + (a : Int)) :: t)) (by omega) (by simp; omega)).same ?_
    rw [List.range'_succ, List.flatMap_cons, List.append_assoc]
theorem strips_ev {p outer : List Int} (hp : Part p) (ho : Part outer) (hin : ∀ i : Nat, p.getD i 0 ≤ outer.getD i 0) : ∀ (d row n : Nat), row + d = outer.length → n ≤ 1000 →
    Evs (fun f => spec_l7Strips.f f p outer (n : Int) (row : Int)) ((Gr.ways (Gr.capsP p outer row) n).map (Gr.addw p row))
  | 0, row, n, h, hn => by
    have h1 : (row : Int) = (outer.length : Int) := by omega
    have h3 : ([] : List (List Int)).length < 5864062014805 := by simp
    refine Evs.succ ?_
    simp only [spec_l7Strips.f, Option.bind_some, if_pos h1]
    rw [Gr.capsP_nil _ _ _ (by omega)]
    unfold Gr.ways
    by_cases h0 : n = 0
    · subst h0
      simp only [Int.natCast_zero, if_true, if_pos h3]
      exact Evs.pure _
    · have h2 : ¬ ((n : Int) = 0) := by omega
      simp only [if_neg h2, if_neg h0]
      exact Evs.pure _
  | d + 1, row, n, h, hn => by
    have h1 : ¬ (row : Int) = (outer.length : Int) := by omega
    have h2 : (0 : Int) ≤ (row : Int) := by omega
    have h3 : (row : Int) < (outer.length : Int) := by omega
    have hol := ho.len
    have hpr := getD_nn hp row
    have hpo := hin row
    have hoo := getD_nn ho row
    have hcs := Gr.capP_le hp ho row
    have key : ∀ most : Int, most = p.getD row 0 + ((Gr.capP p outer row : Nat) : Int) → Evs (fun f => spec_l7Strips.j0 f p outer (n : Int) (row : Int) [] most) ((Gr.ways (Gr.capsP p outer row) n).map (Gr.addw p row)) := by
      rintro most rfl
      refine Evs.succ ?_
      simp only [spec_l7Strips.j0, at2_nat, Option.bind_some]
      have hl0 := strips_l0 p outer n row (Gr.capP p outer row) hpr hcs hn (by omega) (fun a => (Gr.ways (Gr.capsP p outer (row + 1)) (n - a)).map (Gr.addw p (row + 1)))
        (fun a _ _ => strips_ev hp ho hin d (row + 1) (n - a) (by omega) (by omega))
        (fun a t ht => by
          obtain ⟨b, hb, rfl⟩ := List.mem_map.1 ht
          rw [Gr.addw_length, Gr.ways_length _ _ b hb, Gr.capsP_length]
          omega)
        (fun a => by
          rw [List.length_map]
          have := Gr.ways_small (Gr.capsP p outer (row + 1)) (n - a) (Gr.capsP_le hp ho (row + 1))
          rw [Gr.capsP_length] at this
          have h8 : 10 ^ (outer.length - (row + 1)) ≤ 10 ^ 8 := Nat.pow_le_pow_right (by decide) (by omega)
          have h9 : 10 ^ 8 = 100000000 := by decide
          omega)
        (min (Gr.capP p outer row) n + 1) 0 [] (by omega) (by simp; omega)
      rw [Int.natCast_zero, Int.add_zero] at hl0
      refine hl0.same ?_
      rw [Gr.capsP_cons p outer row (by omega)]
      conv => rhs; unfold Gr.ways
      rw [List.nil_append, List.map_flatMap, List.range_eq_range']
      congr 1
      funext b
      rw [List.map_map, List.map_map]
      rfl
    refine Evs.succ ?_
    simp only [spec_l7Strips.f, Option.bind_some, if_neg h1, if_pos h2, if_pos h3]
    by_cases h0 : (row : Int) > 0
    · have e1 : wrap64 ((row : Int) - 1) = ((row - 1 : Nat) : Int) := by rw [w64 _ (by omega) (by omega)]; omega
      have hd : p.getD row 0 ≤ p.getD (row - 1) 0 := by
        have := hp.dec' (row - 1)
        rwa [show row - 1 + 1 = row by omega] at this
      have e2 : spec_l1Min.f (rd outer (row : Int)) (p.getD (row - 1) 0) = some (min (outer.getD row 0) (p.getD (row - 1) 0)) := by
        unfold spec_l1Min.f
        rw [rd_nat]
        split
        · congr 1; omega
        · congr 1; omega
      simp only [if_pos h0, e1, at2_nat, Option.bind_some, e2]
      refine key _ ?_
      unfold Gr.capP
      rw [if_pos (by omega)]
      omega
    · simp only [if_neg h0, rd_nat]
      refine key _ ?_
      unfold Gr.capP
      rw [if_neg (by omega)]
      omega
theorem trim_l0 (a : List Int) (ha : ∀ x ∈ a, 0 < x) (z : Nat) (hl : a.length + z ≤ 1000) : ∀ y : Nat, y ≤ z → Evs (fun f => spec_l7Trim.l0 f (a ++ List.replicate z 0) ((a.length + y : Nat) : Int)) a
  | 0, _ => by
    have h3 : ((a.length + 0 : Nat) : Int) ≤ ((a ++ List.replicate z (0 : Int)).length : Int) := by simp; omega
    have h4 : (0 : Int) ≤ ((a.length + 0 : Nat) : Int) := by omega
    have e : (a ++ List.replicate z (0 : Int)).take (((a.length + 0 : Nat) : Int)).toNat = a := by
      rw [Int.toNat_natCast, Nat.add_zero, List.take_left']
      rfl
    have h5 : ([] : List Int).length + a.length < 17592186044416 := by rw [List.length_nil]; omega
    refine Evs.succ ?_
    by_cases h : ((a.length + 0 : Nat) : Int) > 0
    · have e1 : wrap64 (((a.length + 0 : Nat) : Int) - 1) = ((a.length - 1 : Nat) : Int) := by rw [w64 _ (by omega) (by omega)]; omega
      have h1 : (0 : Int) ≤ ((a.length - 1 : Nat) : Int) := by omega
      have h2 : ((a.length - 1 : Nat) : Int) < ((a ++ List.replicate z (0 : Int)).length : Int) := by simp; omega
      have hne : ¬ rd (a ++ List.replicate z (0 : Int)) ((a.length - 1 : Nat) : Int) = 0 := by
        rw [rd_nat, List.getD_eq_getElem?_getD, List.getElem?_append_left (by omega), List.getElem?_eq_getElem (by omega), Option.getD_some]
        have := ha _ (List.getElem_mem (l := a) (n := a.length - 1) (by omega))
        omega
      simp only [spec_l7Trim.l0, if_pos h, e1, if_pos h1, if_pos h2, if_neg hne, Option.bind_some, if_pos h3, if_pos h4, e, if_pos h5, List.nil_append]
      exact Evs.pure _
    · simp only [spec_l7Trim.l0, if_neg h, Option.bind_some, if_pos h3, if_pos h4, e, if_pos h5, List.nil_append]
      exact Evs.pure _
  | y + 1, hy => by
    have h : ((a.length + (y + 1) : Nat) : Int) > 0 := by omega
    have e1 : wrap64 (((a.length + (y + 1) : Nat) : Int) - 1) = ((a.length + y : Nat) : Int) := by rw [w64 _ (by omega) (by omega)]; omega
    have h1 : (0 : Int) ≤ ((a.length + y : Nat) : Int) := by omega
    have h2 : ((a.length + y : Nat) : Int) < ((a ++ List.replicate z (0 : Int)).length : Int) := by simp; omega
    have he : rd (a ++ List.replicate z (0 : Int)) ((a.length + y : Nat) : Int) = 0 := by
      rw [rd_nat, List.getD_eq_getElem?_getD, List.getElem?_append_right (by omega), show a.length + y - a.length = y by omega, List.getElem?_replicate, if_pos (by omega), Option.getD_some]
    refine Evs.succ ?_
    simp only [spec_l7Trim.l0, if_pos h, e1, if_pos h1, if_pos h2, if_pos he]
    exact trim_l0 a ha z hl y (by omega)
theorem trim_ev (q : List Int) (hq : q.length ≤ 1000) (h0 : ∀ x ∈ q, 0 ≤ x) (hd : ∀ i : Nat, q.getD (i + 1) 0 ≤ q.getD i 0) : Evs (fun f => spec_l7Trim.f f q) (q.filter fun x => decide (0 < x)) := by
  obtain ⟨z, hz⟩ := Gr.filt_split q h0 hd
  have hpos : ∀ x ∈ q.filter (fun x => decide (0 < x)), 0 < x := fun x hx => of_decide_eq_true (List.mem_filter.1 hx).2
  generalize q.filter (fun x => decide (0 < x)) = a at hz hpos
  subst hz
  unfold spec_l7Trim.f
  have hl : (a ++ List.replicate z (0 : Int)).length = a.length + z := by simp
  rw [hl] at hq ⊢
  exact trim_l0 a hpos z hq z (Nat.le_refl _)
end Go.Proofs.YtppkfgcnmaifmaaGreatDoor.Hb
namespace Go.Proofs.YtppkfgcnmaifmaaGreatDoor.Hb
open Go.RowKit Go.Proofs.YtppkfgcnmaifmaaGreatDoorW.PrintWords Go.Proofs.YtppkfgcnmaifmaaGreatDoorW.PrintLast Go.Proofs.YtppkfgcnmaifmaaGreatDoorW.PrintMore
attribute [local go_sem] max2_int min2_int max_two min_two max_three min_three max_four min_four
set_option linter.unusedVariables false
set_option linter.unusedSimpArgs false
open Pu
def okW (l : List Int) : Bool := decide (l.length ≤ 9) && !(l.any impl_isWeight.bad)
theorem okW_iff (l : List Int) : okW l = true ↔ l.length ≤ 9 ∧ ∀ x ∈ l, 0 ≤ x ∧ x ≤ 9 := by
  unfold okW impl_isWeight.bad
  rw [Bool.and_eq_true, decide_eq_true_eq, Bool.not_eq_true', ← Bool.not_eq_true, List.any_eq_true]
  refine and_congr_right fun _ => ⟨fun h x hx => ?_, fun h => ?_⟩
  · by_cases h1 : 0 ≤ x ∧ x ≤ 9
    · exact h1
    · exact absurd ⟨x, hx, by rw [Bool.not_eq_true', Bool.and_eq_false_iff, decide_eq_false_iff_not, decide_eq_false_iff_not]; omega⟩ h
  · rintro ⟨x, hx, hb⟩
    have := h x hx
    rw [Bool.not_eq_true', Bool.and_eq_false_iff, decide_eq_false_iff_not, decide_eq_false_iff_not] at hb
    omega
theorem kcount_l0 {α : Type} (outer ws : List Int) (j : Nat) (hj : j ≤ 1000) (g tr : α → List Int) (v : α → Int) (hv : ∀ a, 0 ≤ v a ∧ v a ≤ 387420489) :
    ∀ (todo : List α) (pre : List (List Int)) (acc : Int), (∀ a ∈ todo, Evs (fun f => spec_l7Trim.f f (g a)) (tr a) ∧ Evs (fun f => spec_l7Count.f f (tr a) outer ws ((j + 1 : Nat) : Int)) (v a)) → 0 ≤ acc → acc + todo.length * 387420489 ≤ 900000000000000000 →
      pre.length + todo.length ≤ 5000000000 → Evs (fun f => spec_l7Count.l0 f outer ws (j : Int) acc (pre ++ todo.map g) (pre.length : Int)) (acc + (todo.map v).sum)
  | [], pre, acc, _, _, _, _ => by
    have h : ¬ (pre.length : Int) < ((pre ++ ([] : List α).map g).length : Int) := by simp
    refine Evs.succ ?_
    simp only [spec_l7Count.l0, if_neg h]
    exact (Evs.pure _).same (by simp)
  | a :: todo, pre, acc, hev, h0, hacc, hlen => by
    have hl : (pre ++ (a :: todo).map g).length = pre.length + todo.length + 1 := by simp; omega
    rw [List.length_cons] at hacc hlen
    have h : (pre.length : Int) < ((pre ++ (a :: todo).map g).length : Int) := by omega
    have h1 : (0 : Int) ≤ (pre.length : Int) := by omega
    have hva := hv a
    have e1 : wrap64 (acc + v a) = acc + v a := w64 _ (by omega) (by omega)
    have e2 : wrap64 ((pre.length : Int) + 1) = ((pre ++ [g a]).length : Int) := by rw [w64 _ (by omega) (by omega)]; simp
    have e3 : wrap64 ((j : Int) + 1) = ((j + 1 : Nat) : Int) := by rw [w64 _ (by omega) (by omega)]; omega
    obtain ⟨ht, hc⟩ := hev a (List.mem_cons_self ..)
    refine Evs.succ ?_
    rw [List.map_cons]
    rw [List.map_cons] at h
    simp only [spec_l7Count.l0, if_pos h, if_pos h1, rdL_mid, e3]
    refine ht.bind (hc.bind ?_)
    rw [e1, e2, snoc pre (g a) (todo.map g)]
    refine (kcount_l0 outer ws j hj g tr v hv todo (pre ++ [g a]) (acc + v a) (fun b hb => hev b (List.mem_cons_of_mem _ hb)) (by omega) (by omega) (by simp; omega)).same ?_
    rw [List.map_cons, List.sum_cons]
    omega
def kval (outer inner : List Int) (ws : List Int) (rows : List (List Int)) (k : Int) : Int := if Gr.room outer inner rows = ws.sum then ((Gr.fillL outer inner ws rows k).length : Int) else 0
theorem nn_sum : ∀ ws : List Int, (∀ x ∈ ws, 0 ≤ x) → 0 ≤ ws.sum
  | [], _ => by simp
  | x :: ws, h => by
    have h1 := h x (List.mem_cons_self ..)
    have h2 := nn_sum ws fun y hy => h y (List.mem_cons_of_mem _ hy)
    rw [List.sum_cons]; omega
theorem kval_le {outer inner ws : List Int} {rows : List (List Int)} {k : Int} (ho : Part outer) (hg : Gr.Good outer inner rows k) (hw : ∀ x ∈ ws, 0 ≤ x) : 0 ≤ kval outer inner ws rows k ∧ kval outer inner ws rows k ≤ 387420489 := by
  unfold kval
  split
  · rename_i h
    have h1 := (Gr.growL_perm ws rows k hg).length_eq
    have h2 := growL_small outer inner ho.len ws rows k
    have h3 := Gr.toNat_sum ws hw
    have h4 := ho.sum
    have h5 := sum_ge _ (Gr.ptn_part ho hg).pos
    have h6 : (ws.map Int.toNat).sum ≤ 9 := by
      unfold Gr.room at h
      generalize (Gr.ptn outer inner rows).sum = z at *
      generalize (Gr.ptn outer inner rows).length = y at *
      omega
    have h7 : 9 ^ (ws.map Int.toNat).sum ≤ 9 ^ 9 := Nat.pow_le_pow_right (by decide) h6
    have h8 : 9 ^ 9 = 387420489 := by decide
    omega
  · omega
theorem sum_ite_len {α : Type} (p : Prop) [Decidable p] (l : α → Nat) : ∀ xs : List α, (xs.map fun x => if p then (l x : Int) else 0).sum = if p then (((xs.map l).sum : Nat) : Int) else 0
  | [] => by simp
  | x :: xs => by
    rw [List.map_cons, List.sum_cons, List.map_cons, List.sum_cons, sum_ite_len p l xs]
    split <;> omega
theorem kcount_ev {outer inner : List Int} (ho : Part outer) : ∀ (rest pre : List Int) (rows : List (List Int)) (k : Int), Gr.Good outer inner rows k → pre.length + rest.length ≤ 9 → (∀ x ∈ rest, 0 ≤ x ∧ x ≤ 9) →
    Evs (fun f => spec_l7Count.f f (Gr.ptn outer inner rows) outer (pre ++ rest) (pre.length : Int)) (kval outer inner rest rows k)
  | [], pre, rows, k, hg, _, _ => by
    have h : (pre.length : Int) = ((pre ++ ([] : List Int)).length : Int) := by simp
    have hp := Gr.ptn_part ho hg
    refine Evs.succ ?_
    simp only [spec_l7Count.f, if_pos h]
    refine (size_ev _ (by have := hp.len; omega) (nn_of hp)).bind ((size_ev outer (by have := ho.len; omega) (nn_of ho)).bind ?_)
    unfold kval Gr.room Gr.fillL
    by_cases he : (Gr.ptn outer inner rows).sum = outer.sum
    · have e1 : ((Gr.ptn outer inner rows).sum == outer.sum) = true := by simpa using he
      have e2 : spec_l1Bit.f true = some 1 := rfl
      simp only [e1, e2, Option.bind_some]
      refine (Evs.pure _).same ?_
      rw [he, if_pos (by simp)]
      rfl
    · have e1 : ((Gr.ptn outer inner rows).sum == outer.sum) = false := by simpa using he
      have e2 : spec_l1Bit.f false = some 0 := rfl
      simp only [e1, e2, Option.bind_some]
      refine (Evs.pure _).same ?_
      rw [if_neg]
      rw [List.sum_nil]
      generalize (Gr.ptn outer inner rows).sum = z at *
      omega
  | w :: rest, pre, rows, k, hg, hl, hw => by
    rw [List.length_cons] at hl
    have hlen : (pre ++ w :: rest).length = pre.length + rest.length + 1 := by simp; omega
    have h : ¬ (pre.length : Int) = ((pre ++ w :: rest).length : Int) := by omega
    have h1 : (0 : Int) ≤ (pre.length : Int) := by omega
    have h2 : (pre.length : Int) < ((pre ++ w :: rest).length : Int) := by omega
    have hw0 := hw w (List.mem_cons_self ..)
    have hwn : ((w.toNat : Nat) : Int) = w := by omega
    have hrest : ∀ x ∈ rest, 0 ≤ x ∧ x ≤ 9 := fun x hx => hw x (List.mem_cons_of_mem _ hx)
    have hp := Gr.ptn_part ho hg
    have hst := strips_ev hp ho (Gr.ptn_le hg) outer.length 0 w.toNat (by omega) (by omega)
    rw [Gr.capsP_eq hg, hwn, Int.natCast_zero] at hst
    refine Evs.succ ?_
    simp only [spec_l7Count.f, if_neg h, if_pos h1, if_pos h2, rd_mid]
    refine hst.bind ?_
    have hsum : ∀ a ∈ Gr.ways (Gr.caps outer inner rows 0) w.toNat, a.sum = w.toNat := fun a ha => Gr.ways_sum _ _ a ha
    have hmem : ∀ a ∈ Gr.ways (Gr.caps outer inner rows 0) w.toNat, a ∈ Gr.ways (Gr.caps outer inner rows 0) a.sum := fun a ha => by rw [hsum a ha]; exact ha
    have hgood : ∀ a ∈ Gr.ways (Gr.caps outer inner rows 0) w.toNat, Gr.Good outer inner (Gr.ext k 0 rows a) (k + 1) := fun a ha => by
      obtain ⟨b2, b3⟩ := Gr.caps_le ha
      exact Gr.good_ext hg a b2 b3
    have hsmall : (Gr.ways (Gr.caps outer inner rows 0) w.toNat).length ≤ 1000000000 := by
      rw [← Gr.capsP_eq hg]
      have := Gr.ways_small (Gr.capsP (Gr.ptn outer inner rows) outer 0) w.toNat (Gr.capsP_le hp ho 0)
      rw [Gr.capsP_length] at this
      have h8 : 10 ^ (outer.length - 0) ≤ 10 ^ 9 := Nat.pow_le_pow_right (by decide) (by have := ho.len; omega)
      have h9 : 10 ^ 9 = 1000000000 := by decide
      omega
    generalize hWW : Gr.ways (Gr.caps outer inner rows 0) w.toNat = W at *
    have hv : ∀ a : List Nat, 0 ≤ (if a ∈ W then kval outer inner rest (Gr.ext k 0 rows a) (k + 1) else 0) ∧ (if a ∈ W then kval outer inner rest (Gr.ext k 0 rows a) (k + 1) else 0) ≤ 387420489 := fun a => by
      split
      · rename_i ha
        exact kval_le ho (hgood a ha) fun x hx => (hrest x hx).1
      · omega
    have hloop := kcount_l0 outer (pre ++ w :: rest) pre.length (by omega) (Gr.addw (Gr.ptn outer inner rows) 0) (fun a => Gr.ptn outer inner (Gr.ext k 0 rows a)) (fun a => if a ∈ W then kval outer inner rest (Gr.ext k 0 rows a) (k + 1) else 0) hv
      W [] 0 (fun a ha => by
        refine ⟨?_, ?_⟩
        · rw [Gr.addw_cols hg a (hmem a ha)]
          obtain ⟨c1, c2⟩ := Gr.cols_nn (hgood a ha)
          exact trim_ev _ (by rw [Gr.cols_length]; have := ho.len; omega) c1 c2
        · have ih := kcount_ev ho rest (pre ++ [w]) (Gr.ext k 0 rows a) (k + 1) (hgood a ha) (by simp; omega) hrest
          rw [if_pos ha, snoc pre w rest]
          rwa [show (pre ++ [w]).length = pre.length + 1 by simp] at ih) (by omega) (by omega) (by simp; omega)
    refine hloop.same ?_
    have hs2 : (W.map fun a => if a ∈ W then kval outer inner rest (Gr.ext k 0 rows a) (k + 1) else 0) = W.map fun a => if Gr.room outer inner rows = (w :: rest).sum then (((Gr.fillL outer inner rest (Gr.ext k 0 rows a) (k + 1)).length : Nat) : Int) else 0 := by
      apply List.map_congr_left
      intro a ha
      rw [if_pos ha]
      unfold kval
      have hr := Gr.room_ext hg a (hmem a ha)
      rw [hsum a ha] at hr
      rw [hr, List.sum_cons]
      by_cases hq : Gr.room outer inner rows = w + rest.sum
      · rw [if_pos hq, if_pos (by omega)]
      · rw [if_neg hq, if_neg (by omega)]
    rw [hs2, sum_ite_len, Int.zero_add]
    unfold kval
    conv => rhs; unfold Gr.fillL
    rw [hWW, List.length_flatMap]
theorem tofw_ev (outer inner ws : List Int) (ho : outer.length ≤ 4000000) (hi : inner.length ≤ 4000000) :
    Evs (fun f => impl_TableauxOfWeight.f f outer inner ws) (if inside inner outer = true then (if okW ws = true then (if ws.sum = outer.sum - inner.sum then impl_tableaux.sorted outer inner ws else []) else []) else []) := by
  unfold impl_TableauxOfWeight.f
  refine (ishape_ev outer inner ho hi).bind ?_
  cases h : inside inner outer with
  | false =>
    simp only [Bool.false_eq_true, if_false]
    exact Evs.pure _
  | true =>
    have he : impl_isWeight.f ws = some (okW ws) := rfl
    simp only [if_true, he, Option.bind_some]
    cases hk : okW ws with
    | false =>
      simp only [Bool.false_eq_true, if_false]
      exact Evs.pure _
    | true =>
      obtain ⟨hl, hx⟩ := (okW_iff ws).1 hk
      simp only [if_true]
      by_cases hs : ws.sum = outer.sum - inner.sum
      · rw [if_pos hs]
        exact (tableaux_ev ⟨h, hl, fun x hxm => (hx x hxm).1, hs⟩ fun x hxm => (hx x hxm).2).bind (Evs.pure _)
      · rw [if_neg hs]
        exact (tableaux_none h hl hx hs).bind (Evs.pure _)
theorem ikostka_ev (outer inner ws : List Int) (ho : outer.length ≤ 4000000) (hi : inner.length ≤ 4000000) :
    Evs (fun f => impl_KostkaNumber.f f outer inner ws) (if inside inner outer = true then (if okW ws = true then kval outer inner ws (List.replicate outer.length []) 1 else 0) else 0) := by
  unfold impl_KostkaNumber.f
  refine (tofw_ev outer inner ws ho hi).bind ((Evs.pure _).same ?_)
  cases h : inside inner outer with
  | false => simp
  | true =>
    simp only [if_true]
    split
    · unfold kval Gr.room
      rw [ptn_start h]
      by_cases hs : ws.sum = outer.sum - inner.sum
      · rw [if_pos hs, if_pos hs.symm, sorted_length]
        exact congrArg _ (Gr.growL_perm ws _ 1 (ones_fills h).1.start).length_eq
      · rw [if_neg hs, if_neg (fun e => hs e.symm)]
        rfl
    · rfl
end Go.Proofs.YtppkfgcnmaifmaaGreatDoor.Hb
namespace Go.Proofs.YtppkfgcnmaifmaaGreatDoor.Hb
open Go.RowKit Go.Proofs.YtppkfgcnmaifmaaGreatDoorW.PrintWords Go.Proofs.YtppkfgcnmaifmaaGreatDoorW.PrintLast Go.Proofs.YtppkfgcnmaifmaaGreatDoorW.PrintMore
attribute [local go_sem] max2_int min2_int max_two min_two max_three min_three max_four min_four
set_option linter.unusedVariables false
set_option linter.unusedSimpArgs false
open Pu
def parts : Nat → Nat → Nat → List (List Int)
  | 0, _, _ => [[]]
  | d + 1, n, m => if n = 0 then [[]] else (List.range (min n m)).reverse.flatMap fun j => (parts d (n - (j + 1)) (j + 1)).map fun t => ((j + 1 : Nat) : Int) :: t
theorem range_rev (j : Nat) : (List.range (j + 1)).reverse = j :: (List.range j).reverse := by
  rw [List.range_succ, List.reverse_append]; rfl
theorem len_flat {α : Type} (g : Nat → List α) (B : Nat) (h : ∀ j, (g j).length ≤ B) : ∀ l : List Nat, (l.flatMap g).length ≤ l.length * B
  | [] => by simp
  | x :: l => by
    rw [List.flatMap_cons, List.length_append, List.length_cons, Nat.succ_mul]
    have := len_flat g B h l
    have := h x
    omega
theorem parts_small : ∀ (d n m : Nat), n ≤ 9 → (parts d n m).length ≤ 9 ^ d
  | 0, _, _, _ => by simp [parts]
  | d + 1, n, m, h => by
    unfold parts
    split
    · have : 1 ≤ 9 ^ (d + 1) := Nat.one_le_pow _ _ (by decide)
      simpa using this
    · have h1 := len_flat (fun j => (parts d (n - (j + 1)) (j + 1)).map fun t => ((j + 1 : Nat) : Int) :: t) (9 ^ d) (fun j => by rw [List.length_map]; exact parts_small d _ _ (by omega)) (List.range (min n m)).reverse
      rw [List.length_reverse, List.length_range] at h1
      refine Nat.le_trans h1 ?_
      rw [Nat.pow_succ, Nat.mul_comm]
      exact Nat.mul_le_mul_left _ (by omega)
theorem parts_small9 (d n m : Nat) (hd : d ≤ 9) (h : n ≤ 9) : (parts d n m).length ≤ 387420489 :=
  Nat.le_trans (parts_small d n m h) (Nat.le_trans (Nat.pow_le_pow_right (by decide) hd) (by decide))
theorem parts_mem : ∀ (d n m : Nat), n ≤ d → ∀ p ∈ parts d n m, p.length ≤ n ∧ (∀ x ∈ p, 1 ≤ x) ∧ (∀ i : Nat, p.getD (i + 1) 0 ≤ p.getD i 0) ∧ p.sum = n ∧ p.getD 0 0 ≤ m
  | 0, n, m, h, p, hp => by
    obtain rfl : p = [] := by simpa [parts] using hp
    obtain rfl : n = 0 := by omega
    simp
  | d + 1, n, m, h, p, hp => by
    unfold parts at hp
    split at hp
    · obtain rfl : p = [] := by simpa using hp
      subst n
      simp
    · rename_i h0
      obtain ⟨j, hj, hp⟩ := List.mem_flatMap.1 hp
      obtain ⟨t, ht, rfl⟩ := List.mem_map.1 hp
      rw [List.mem_reverse, List.mem_range] at hj
      obtain ⟨a1, a2, a3, a4, a5⟩ := parts_mem d (n - (j + 1)) (j + 1) (by omega) t ht
      refine ⟨by rw [List.length_cons]; omega, fun x hx => ?_, fun i => ?_, ?_, ?_⟩
      · rcases List.mem_cons.1 hx with rfl | hx
        · omega
        · exact a2 x hx
      · cases i with
        | zero => rw [List.getD_cons_succ, List.getD_cons_zero]; exact a5
        | succ i => rw [List.getD_cons_succ, List.getD_cons_succ]; exact a3 i
      · rw [List.sum_cons, a4]; omega
      · rw [List.getD_cons_zero]; omega
theorem parts_part {n : Nat} (hn : n ≤ 9) {p : List Int} (hp : p ∈ parts n n n) : Part p ∧ p.sum = n := by
  obtain ⟨_, a2, a3, a4, _⟩ := parts_mem n n n (Nat.le_refl _) p hp
  exact ⟨⟨a2, fun i _ => a3 i, by omega⟩, a4⟩
theorem ipar_l1 (n first len : Int) (R : List (List Int)) : ∀ (todo pre out : List (List Int)), len = ((pre ++ todo).length : Int) → pre.length + todo.length ≤ 5000000000 → out.length + todo.length ≤ 5000000000 → (∀ t ∈ todo, t.length ≤ 1000) →
    Evs (fun f => impl_partitions.l0 f n (out ++ todo.map (first :: ·)) (wrap64 (first - 1))) R → Evs (fun f => impl_partitions.l1 f n out first (pre ++ todo) len (pre.length : Int)) R
  | [], pre, out, e, _, _, _, hR => by
    have h : ¬ (pre.length : Int) < len := by rw [e]; simp
    refine Evs.succ ?_
    simp only [impl_partitions.l1, if_neg h]
    simpa using hR
  | t :: todo, pre, out, e, h1, h2, h3, hR => by
    have hlen : (pre ++ t :: todo).length = pre.length + todo.length + 1 := by simp; omega
    have h : (pre.length : Int) < len := by omega
    have h4 : (pre.length : Int) < ((pre ++ t :: todo).length : Int) := by omega
    have h0 : (0 : Int) ≤ (pre.length : Int) := by omega
    have ht : ([first] : List Int).length + t.length < 17592186044416 := by
      have := h3 t (List.mem_cons_self ..)
      simp only [List.length_cons, List.length_nil]; omega
    rw [List.length_cons] at h1 h2
    have hout : out.length < 5864062014805 := by omega
    have e2 : wrap64 ((pre.length : Int) + 1) = ((pre ++ [t]).length : Int) := by
      rw [w64 _ (by omega) (by omega)]; simp
    refine Evs.succ ?_
    simp only [impl_partitions.l1, if_pos h, if_pos h4, Option.bind_some, if_pos h0, rdL_mid, if_pos ht, if_pos hout, e2]
    rw [snoc pre t todo]
    refine ipar_l1 n first len R todo (pre ++ [t]) _ (by rw [e, snoc pre t todo]) (by simp; omega) (by simp; omega) (fun u hu => h3 u (List.mem_cons_of_mem _ hu)) ?_
    simpa using hR
theorem ipar_ev : ∀ (d n m : Nat), n ≤ d → d ≤ 9 → m ≤ 9 → Evs (fun f => impl_partitions.f f (n : Int) (m : Int)) (parts d n m)
  | 0, n, m, h, _, _ => by
    obtain rfl : n = 0 := by omega
    refine Evs.succ ?_
    simp only [impl_partitions.f, Int.natCast_zero, if_true]
    exact Evs.pure _
  | d + 1, n, m, h, hd, hm => by
    refine Evs.succ ?_
    unfold parts
    by_cases h0 : n = 0
    · subst h0
      simp only [impl_partitions.f, Int.natCast_zero, if_true]
      exact Evs.pure _
    · have h1 : ¬ (n : Int) = 0 := by omega
      have hmn : mn (n : Int) (m : Int) = ((min n m : Nat) : Int) := by unfold mn; split <;> omega
      simp only [impl_partitions.f, if_neg h1, if_neg h0, hmn]
      have loop : ∀ (j : Nat) (out : List (List Int)), j ≤ min n m → out.length + j * 387420489 ≤ 5000000000 →
          Evs (fun f => impl_partitions.l0 f (n : Int) out (j : Int)) (out ++ (List.range j).reverse.flatMap fun j => (parts d (n - (j + 1)) (j + 1)).map fun t => ((j + 1 : Nat) : Int) :: t) := by
        intro j
        induction j with
        | zero =>
          intro out _ _
          refine Evs.succ ?_
          have h2 : ¬ ((0 : Nat) : Int) > 0 := by omega
          simp only [impl_partitions.l0, if_neg h2]
          exact (Evs.pure _).same (by simp)
        | succ j ih =>
          intro out hj hout
          have h2 : ((j + 1 : Nat) : Int) > 0 := by omega
          have e1 : wrap64 ((n : Int) - ((j + 1 : Nat) : Int)) = ((n - (j + 1) : Nat) : Int) := by rw [w64 _ (by omega) (by omega)]; omega
          have e2 : wrap64 (((j + 1 : Nat) : Int) - 1) = (j : Int) := by rw [w64 _ (by omega) (by omega)]; omega
          have hs := parts_small9 d (n - (j + 1)) (j + 1) (by omega) (by omega)
          refine Evs.succ ?_
          simp only [impl_partitions.l0, if_pos h2, e1]
          refine (ipar_ev d (n - (j + 1)) (j + 1) (by omega) (by omega) (by omega)).bind ?_
          refine ipar_l1 (n : Int) _ _ _ (parts d (n - (j + 1)) (j + 1)) [] out (by simp) (by simp; omega) (by omega) (fun t ht => by have := (parts_mem d _ _ (by omega) t ht).1; omega) ?_
          rw [e2]
          refine (ih _ (by omega) (by rw [List.length_append, List.length_map]; omega)).same ?_
          rw [range_rev, List.flatMap_cons, List.append_assoc]
      have := loop (min n m) [] (Nat.le_refl _) (by rw [List.length_nil]; omega)
      rwa [List.nil_append] at this
theorem spar_l1 (n first : Int) (R : List (List Int)) : ∀ (todo pre out : List (List Int)), pre.length + todo.length ≤ 5000000000 → out.length + todo.length ≤ 5000000000 → (∀ t ∈ todo, t.length ≤ 1000) →
    Evs (fun f => spec_l2All.l0 f n (out ++ todo.map (first :: ·)) (wrap64 (first - 1))) R → Evs (fun f => spec_l2All.l1 f n out first (pre ++ todo) (pre.length : Int)) R
  | [], pre, out, _, _, _, hR => by
    have h : ¬ (pre.length : Int) < ((pre ++ ([] : List (List Int))).length : Int) := by simp
    refine Evs.succ ?_
    simp only [spec_l2All.l1, if_neg h]
    simpa using hR
  | t :: todo, pre, out, h1, h2, h3, hR => by
    have hlen : (pre ++ t :: todo).length = pre.length + todo.length + 1 := by simp; omega
    have h : (pre.length : Int) < ((pre ++ t :: todo).length : Int) := by omega
    have h0 : (0 : Int) ≤ (pre.length : Int) := by omega
    have ht : ([first] : List Int).length + t.length < 17592186044416 := by
      have := h3 t (List.mem_cons_self ..)
      simp only [List.length_cons, List.length_nil]; omega
    rw [List.length_cons] at h1 h2
    have hout : out.length < 5864062014805 := by omega
    have e2 : wrap64 ((pre.length : Int) + 1) = ((pre ++ [t]).length : Int) := by
      rw [w64 _ (by omega) (by omega)]; simp
    refine Evs.succ ?_
    simp only [spec_l2All.l1, if_pos h, Option.bind_some, if_pos h0, rdL_mid, if_pos ht, if_pos hout, e2]
    rw [snoc pre t todo]
    refine spar_l1 n first R todo (pre ++ [t]) _ (by simp; omega) (by simp; omega) (fun u hu => h3 u (List.mem_cons_of_mem _ hu)) ?_
    simpa using hR
theorem spar_ev : ∀ (d n m : Nat), n ≤ d → d ≤ 9 → m ≤ 9 → Evs (fun f => spec_l2All.f f (n : Int) (m : Int)) (parts d n m)
  | 0, n, m, h, _, _ => by
    obtain rfl : n = 0 := by omega
    have h9 : ([] : List (List Int)).length < 5864062014805 := by simp
    refine Evs.succ ?_
    simp only [spec_l2All.f, Option.bind_some, Int.natCast_zero, if_true, if_pos h9]
    exact Evs.pure _
  | d + 1, n, m, h, hd, hm => by
    have h9 : ([] : List (List Int)).length < 5864062014805 := by simp
    refine Evs.succ ?_
    unfold parts
    by_cases h0 : n = 0
    · subst h0
      simp only [spec_l2All.f, Option.bind_some, Int.natCast_zero, if_true, if_pos h9]
      exact Evs.pure _
    · have h1 : ¬ (n : Int) = 0 := by omega
      have hmn : spec_l1Min.f (n : Int) (m : Int) = some ((min n m : Nat) : Int) := by
        unfold spec_l1Min.f
        split
        · congr 1; omega
        · congr 1; omega
      simp only [spec_l2All.f, Option.bind_some, if_neg h1, if_neg h0, hmn]
      have loop : ∀ (j : Nat) (out : List (List Int)), j ≤ min n m → out.length + j * 387420489 ≤ 5000000000 →
          Evs (fun f => spec_l2All.l0 f (n : Int) out (j : Int)) (out ++ (List.range j).reverse.flatMap fun j => (parts d (n - (j + 1)) (j + 1)).map fun t => ((j + 1 : Nat) : Int) :: t) := by
        intro j
        induction j with
        | zero =>
          intro out _ _
          refine Evs.succ ?_
          have h2 : ¬ ((0 : Nat) : Int) ≥ 1 := by omega
          simp only [spec_l2All.l0, if_neg h2]
          exact (Evs.pure _).same (by simp)
        | succ j ih =>
          intro out hj hout
          have h2 : ((j + 1 : Nat) : Int) ≥ 1 := by omega
          have e1 : wrap64 ((n : Int) - ((j + 1 : Nat) : Int)) = ((n - (j + 1) : Nat) : Int) := by rw [w64 _ (by omega) (by omega)]; omega
          have e2 : wrap64 (((j + 1 : Nat) : Int) - 1) = (j : Int) := by rw [w64 _ (by omega) (by omega)]; omega
          have hs := parts_small9 d (n - (j + 1)) (j + 1) (by omega) (by omega)
          refine Evs.succ ?_
          simp only [spec_l2All.l0, if_pos h2, e1]
          refine (spar_ev d (n - (j + 1)) (j + 1) (by omega) (by omega) (by omega)).bind ?_
          refine spar_l1 (n : Int) _ _ (parts d (n - (j + 1)) (j + 1)) [] out (by simp; omega) (by omega) (fun t ht => by have := (parts_mem d _ _ (by omega) t ht).1; omega) ?_
          rw [e2]
          refine (ih _ (by omega) (by rw [List.length_append, List.length_map]; omega)).same ?_
          rw [range_rev, List.flatMap_cons, List.append_assoc]
      have := loop (min n m) [] (Nat.le_refl _) (by rw [List.length_nil]; omega)
      rwa [List.nil_append] at this
end Go.Proofs.YtppkfgcnmaifmaaGreatDoor.Hb
namespace Go.Proofs.YtppkfgcnmaifmaaGreatDoor.Hb
open Go.RowKit Go.Proofs.YtppkfgcnmaifmaaGreatDoorW.PrintWords Go.Proofs.YtppkfgcnmaifmaaGreatDoorW.PrintLast Go.Proofs.YtppkfgcnmaifmaaGreatDoorW.PrintMore
attribute [local go_sem] max2_int min2_int max_two min_two max_three min_three max_four min_four
set_option linter.unusedVariables false
set_option linter.unusedSimpArgs false
open Pu
theorem isize_ev (q : List Int) (hq : q.length ≤ 4000000) : Evs (fun f => impl_SizeOf.f f q) (if isPt q = true then q.sum else -1) := by
  unfold impl_SizeOf.f
  refine (ipart_ev q (by omega)).bind ?_
  cases h : isPt q with
  | false =>
    simp only [Bool.false_eq_true, if_false]
    exact Evs.pure _
  | true =>
    simp only [if_true]
    exact (sum_ev q (by omega) (nn_of ((isPt_iff q).1 h))).bind (Evs.pure _)
def fineQ (q : List Int) : Bool := isPt q && decide (q.sum ≤ 6)
theorem fineQ_iff (q : List Int) : fineQ q = true ↔ Part q ∧ q.sum ≤ 6 := by
  unfold fineQ
  rw [Bool.and_eq_true, decide_eq_true_eq, isPt_iff]
theorem fine_num {q : List Int} (h : fineQ q = true) : ((q.sum.toNat : Nat) : Int) = q.sum ∧ q.sum.toNat ≤ 6 := by
  obtain ⟨h1, h2⟩ := (fineQ_iff q).1 h
  have h3 := nn_sum q fun x hx => by have := h1.pos x hx; omega
  exact ⟨by omega, by omega⟩
theorem ipo_ev {q : List Int} (h : fineQ q = true) : Evs (fun f => impl_PartitionsOf.f f q.sum) (parts q.sum.toNat q.sum.toNat q.sum.toNat) := by
  obtain ⟨h1, h2⟩ := fine_num h
  have e : impl_within.f q.sum 0 9 = some true := by
    rw [within_eq, decide_eq_true (by omega)]
  unfold impl_PartitionsOf.f
  simp only [e, Option.bind_some, if_true]
  have := ipar_ev q.sum.toNat q.sum.toNat q.sum.toNat (Nat.le_refl _) (by omega) (by omega)
  rw [h1] at this
  exact this.bind (Evs.pure _)
theorem spo_ev {q : List Int} (h : fineQ q = true) : Evs (fun f => spec_PartitionsOf.f f q.sum) (parts q.sum.toNat q.sum.toNat q.sum.toNat) := by
  obtain ⟨h1, h2⟩ := fine_num h
  have e : spec_l1In.f q.sum 0 9 = some true := by
    rw [in_eq, decide_eq_true (by omega)]
  unfold spec_PartitionsOf.f
  simp only [e, Option.bind_some, if_true]
  have := spar_ev q.sum.toNat q.sum.toNat q.sum.toNat (Nat.le_refl _) (by omega) (by omega)
  rw [h1] at this
  exact this.bind (Evs.pure _)
theorem sfine_ev (q : List Int) (hq : q.length ≤ 4000000) : Evs (fun f => spec_l21Fine.f f q) (fineQ q) := by
  unfold spec_l21Fine.f
  refine (spart_ev q (by omega)).bind ?_
  cases h : isPt q with
  | false =>
    simp only [Bool.false_eq_true, if_false]
    exact (Evs.pure _).same (by unfold fineQ; rw [h]; rfl)
  | true =>
    simp only [if_true]
    refine (size_ev q (by omega) (nn_of ((isPt_iff q).1 h))).bind ((Evs.pure _).same ?_)
    unfold fineQ
    rw [h]; rfl
theorem vec_l0 (num : List Int → Option Int) (v : List Int → Int) (len : Int) : ∀ (todo pre : List (List Int)) (out : List Int) (k : Nat), len = ((pre ++ todo).length : Int) → pre.length + todo.length ≤ 5000000000 → out.length + todo.length ≤ 5000000000 → (∀ p ∈ todo, num p = some (v p)) → todo.length + 1 ≤ k →
    impl_vectorOf.l0 num k out (pre ++ todo) len (pre.length : Int) = some (out ++ todo.map v)
  | [], pre, out, k, e, _, _, _, hk => by
    obtain ⟨k, rfl⟩ : ∃ j, k = j + 1 := ⟨k - 1, by rw [List.length_nil] at hk; omega⟩
    have h : ¬ (pre.length : Int) < len := by rw [e]; simp
    simp only [impl_vectorOf.l0, if_neg h]
    simp
  | t :: todo, pre, out, k, e, h1, h2, hn, hk => by
    rw [List.length_cons] at h1 h2 hk
    obtain ⟨k, rfl⟩ : ∃ j, k = j + 1 := ⟨k - 1, by omega⟩
    have hlen : (pre ++ t :: todo).length = pre.length + todo.length + 1 := by simp; omega
    have h : (pre.length : Int) < len := by omega
    have h4 : (pre.length : Int) < ((pre ++ t :: todo).length : Int) := by omega
    have h0 : (0 : Int) ≤ (pre.length : Int) := by omega
    have hout : out.length < 17592186044416 := by omega
    have e2 : wrap64 ((pre.length : Int) + 1) = ((pre ++ [t]).length : Int) := by
      rw [w64 _ (by omega) (by omega)]; simp
    simp only [impl_vectorOf.l0, if_pos h, if_pos h4, if_pos h0, rdL_mid, hn t (List.mem_cons_self ..), Option.bind_some, if_pos hout, e2]
    rw [snoc pre t todo, vec_l0 num v len todo (pre ++ [t]) _ k (by rw [e, snoc pre t todo]) (by simp; omega) (by simp; omega) (fun p hp => hn p (List.mem_cons_of_mem _ hp)) (by omega)]
    simp
def vec (v : List Int → Int) (q : List Int) : List Int := if fineQ q = true then (parts q.sum.toNat q.sum.toNat q.sum.toNat).map v else []
theorem ivec_ev (num : Nat → List Int → Option Int) (v : List Int → Int) (q : List Int) (hq : q.length ≤ 4000000) (hn : fineQ q = true → ∀ p ∈ parts q.sum.toNat q.sum.toNat q.sum.toNat, Evs (fun f => num f p) (v p)) :
    Evs (fun f => impl_vectorOf.f f (num f) q) (vec v q) := by
  unfold impl_vectorOf.f
  refine (isize_ev q hq).bind ?_
  have e : impl_within.f (if isPt q = true then q.sum else -1) 0 6 = some (fineQ q) := by
    rw [within_eq]
    congr 1
    unfold fineQ
    cases h : isPt q with
    | false => rfl
    | true =>
      have h3 := nn_sum q fun x hx => by have := ((isPt_iff q).1 h).pos x hx; omega
      simp only [if_true, Bool.true_and]
      exact decide_eq_decide.2 ⟨fun x => x.2, fun x => ⟨h3, x⟩⟩
  simp only [e, Option.bind_some]
  cases h : fineQ q with
  | false =>
    simp only [Bool.false_eq_true, if_false]
    exact (Evs.pure _).same (by unfold vec; rw [h]; rfl)
  | true =>
    have hp : isPt q = true := by
      unfold fineQ at h
      exact (Bool.and_eq_true _ _ ▸ h).1
    simp only [if_true]
    refine (isize_ev q hq).bind ?_
    rw [if_pos hp]
    refine (ipo_ev h).bind ?_
    obtain ⟨h1, h2⟩ := fine_num h
    obtain ⟨K, hK⟩ := Evs.all (g := fun p f => num f p) (f := v) _ (hn h)
    have hs := parts_small9 q.sum.toNat q.sum.toNat q.sum.toNat (by omega) (by omega)
    refine ⟨K + (parts q.sum.toNat q.sum.toNat q.sum.toNat).length + 1, fun k hk => ?_⟩
    have := vec_l0 (num k) v ((parts q.sum.toNat q.sum.toNat q.sum.toNat).length : Int) (parts q.sum.toNat q.sum.toNat q.sum.toNat) [] [] k (by simp) (by simp; omega) (by simp; omega) (fun p hp2 => hK k (by omega) p hp2) (by omega)
    rw [List.nil_append, List.nil_append] at this
    unfold vec
    rw [if_pos h]
    exact this
theorem vec_length (v : List Int → Int) (q : List Int) : (vec v q).length ≤ 387420489 := by
  unfold vec
  cases h : fineQ q with
  | false => simp
  | true =>
    obtain ⟨h1, h2⟩ := fine_num h
    rw [if_pos rfl, List.length_map]
    exact parts_small9 _ _ _ (by omega) (by omega)
def up : Int → Nat → List Int
  | _, 0 => []
  | n, m + 1 => n :: up (n + 1) m
theorem mark_l0 : ∀ (rest pre : List Int) (n : Int), 0 ≤ n → n + rest.length ≤ 1000000000000 → pre.length + rest.length ≤ 1000000000000 → Evs (fun f => laws_markIntS.l0 f (pre ++ rest) n (pre.length : Int)) (n + rest.length, pre ++ up n rest.length)
  | [], pre, n, _, _, _ => by
    have h : ¬ (pre.length : Int) < ((pre ++ ([] : List Int)).length : Int) := by simp
    refine Evs.succ ?_
    simp only [laws_markIntS.l0, if_neg h]
    exact (Evs.pure _).same (by simp [up])
  | x :: rest, pre, n, h0, h1, h2 => by
    rw [List.length_cons] at h1 h2
    have hlen : (pre ++ x :: rest).length = pre.length + rest.length + 1 := by simp; omega
    have h : (pre.length : Int) < ((pre ++ x :: rest).length : Int) := by omega
    have h3 : (0 : Int) ≤ (pre.length : Int) := by omega
    have e1 : wrap64 (n + 1) = n + 1 := w64 _ (by omega) (by omega)
    have e2 : wrap64 ((pre.length : Int) + 1) = ((pre ++ [n]).length : Int) := by rw [len_snoc]; exact w64 _ (by omega) (by omega)
    have e3 : (pre ++ x :: rest).set ((pre.length : Int) : Int).toNat n = (pre ++ [n]) ++ rest := by
      rw [Int.toNat_natCast, List.set_append_right _ _ (Nat.le_refl _), Nat.sub_self, List.set_cons_zero]
      simp
    refine Evs.succ ?_
    simp only [laws_markIntS.l0, if_pos h, if_pos h3, e1, e2, e3]
    refine (mark_l0 rest (pre ++ [n]) (n + 1) (by omega) (by omega) (by simp; omega)).same ?_
    rw [List.length_cons]
    simp only [up, List.append_assoc, List.cons_append, List.nil_append]
    rw [show n + 1 + (rest.length : Int) = n + ((rest.length + 1 : Nat) : Int) by omega]
theorem mark_ev (l : List Int) (hl : l.length ≤ 500000000) : Evs (fun f => laws_markIntS.f f l 1) (1 + l.length, up 1 l.length) := by
  unfold laws_markIntS.f
  exact mark_l0 l [] 1 (by omega) (by omega) (by simp; omega)
theorem held_l0 : ∀ (m : Nat) (pre : List Int) (n : Int), 0 ≤ n → n + m ≤ 1000000000000 → pre.length + m ≤ 1000000000000 → Evs (fun f => laws_heldIntS.l0 f (pre ++ up n m) n (pre.length : Int)) (n + m)
  | 0, pre, n, _, _, _ => by
    have h : ¬ (pre.length : Int) < ((pre ++ up n 0).length : Int) := by simp [up]
    refine Evs.succ ?_
    simp only [laws_heldIntS.l0, if_neg h]
    exact (Evs.pure _).same (by simp)
  | m + 1, pre, n, h0, h1, h2 => by
    have h : (pre.length : Int) < ((pre ++ up n (m + 1)).length : Int) := by simp [up]; omega
    have h3 : (0 : Int) ≤ (pre.length : Int) := by omega
    have hrd : rd (pre ++ up n (m + 1)) (pre.length : Int) = n := rd_mid pre n (up (n + 1) m)
    have e1 : wrap64 (n + 1) = n + 1 := w64 _ (by omega) (by omega)
    have e2 : wrap64 ((pre.length : Int) + 1) = ((pre ++ [n]).length : Int) := by rw [len_snoc]; exact w64 _ (by omega) (by omega)
    refine Evs.succ ?_
    simp only [laws_heldIntS.l0, if_pos h, if_pos h3, hrd, if_true, e1, e2]
    have e4 : pre ++ up n (m + 1) = (pre ++ [n]) ++ up (n + 1) m := by simp [up]
    rw [e4]
    exact (held_l0 m (pre ++ [n]) (n + 1) (by omega) (by omega) (by simp; omega)).same (by omega)
theorem held_ev (m : Nat) (hm : m ≤ 500000000) : Evs (fun f => laws_heldIntS.f f (up 1 m) 1) (1 + m) := by
  unfold laws_heldIntS.f
  exact held_l0 m [] 1 (by omega) (by omega) (by simp; omega)
theorem eqInt2_l0 (l : List Int) (hl : l.length ≤ 500000000) : ∀ d i : Nat, i + d = l.length → Evs (fun f => laws_eqIntS.l0 f l l (i : Int)) true
  | 0, i, e => by
    have h : ¬ (i : Int) < (l.length : Int) := by omega
    refine Evs.succ ?_
    simp only [laws_eqIntS.l0, if_neg h]
    exact Evs.pure _
  | d + 1, i, e => by
    have h2 : (i : Int) < (l.length : Int) := by omega
    have h3 : (0 : Int) ≤ (i : Int) := by omega
    have e2 : wrap64 ((i : Int) + 1) = ((i + 1 : Nat) : Int) := by rw [w64 _ (by omega) (by omega)]; omega
    refine Evs.succ ?_
    simp only [laws_eqIntS.l0, if_pos h2, if_pos h3, if_true, e2]
    exact eqInt2_l0 l hl d (i + 1) (by omega)
theorem eqInt2_ev (l : List Int) (hl : l.length ≤ 500000000) : Evs (fun f => laws_eqIntS.f f l l) true := by
  unfold laws_eqIntS.f
  simp only [if_true]
  exact eqInt2_l0 l hl l.length 0 (by omega)
def kos (outer ws : List Int) : Int := kval outer [] ws (List.replicate outer.length []) 1
theorem inside_nil {p : List Int} (h : Part p) : inside [] p = true := by
  rw [inside_iff]
  exact ⟨Part.nil, h, fun i => by have := getD_nn h i; simpa using this.1⟩
theorem okW_part {q : List Int} (h : Part q) : okW q = true := (okW_iff q).2 ⟨h.len, nn_of h⟩
theorem ikos_ev {p q : List Int} (hp : Part p) (hq : Part q) : Evs (fun f => impl_KostkaNumber.f f p [] q) (kos p q) := by
  have := ikostka_ev p [] q (by have := hp.len; omega) (by simp)
  rwa [if_pos (inside_nil hp), if_pos (okW_part hq)] at this
theorem skos_ev {p q : List Int} (hp : Part p) (hq : Part q) : Evs (fun f => spec_l7Count.f f [] p q 0) (kos p q) := by
  have hc := kcount_ev (inner := []) hp q [] (List.replicate p.length []) 1 (ones_fills (inside_nil hp)).1.start (by have := hq.len; simpa using this) (nn_of hq)
  rwa [ptn_start (inside_nil hp)] at hc
theorem smon_l0 (p : List Int) (hp : Part p) : ∀ (todo pre : List (List Int)) (out : List Int), pre.length + todo.length ≤ 5000000000 → out.length + todo.length ≤ 5000000000 → (∀ q ∈ todo, Part q) →
    Evs (fun f => spec_MonomialOfSchur.l0 f p out (pre ++ todo) (pre.length : Int)) (out ++ todo.map fun q => kos p q)
  | [], pre, out, _, _, _ => by
    have h : ¬ (pre.length : Int) < ((pre ++ ([] : List (List Int))).length : Int) := by simp
    refine Evs.succ ?_
    simp only [spec_MonomialOfSchur.l0, if_neg h]
    exact (Evs.pure _).same (by simp)
  | t :: todo, pre, out, h1, h2, ht => by
    rw [List.length_cons] at h1 h2
    have hlen : (pre ++ t :: todo).length = pre.length + todo.length + 1 := by simp; omega
    have h : (pre.length : Int) < ((pre ++ t :: todo).length : Int) := by omega
    have h0 : (0 : Int) ≤ (pre.length : Int) := by omega
    have hout : out.length < 17592186044416 := by omega
    have e2 : wrap64 ((pre.length : Int) + 1) = ((pre ++ [t]).length : Int) := by
      rw [w64 _ (by omega) (by omega)]; simp
    refine Evs.succ ?_
    simp only [spec_MonomialOfSchur.l0, if_pos h, if_pos h0, rdL_mid]
    refine (skos_ev hp (ht t (List.mem_cons_self ..))).bind ?_
    simp only [if_pos hout, e2]
    rw [snoc pre t todo]
    refine (smon_l0 p hp todo (pre ++ [t]) _ (by simp; omega) (by simp; omega) (fun q hq => ht q (List.mem_cons_of_mem _ hq))).same ?_
    simp
theorem parts_parts {q : List Int} (h : fineQ q = true) : ∀ p ∈ parts q.sum.toNat q.sum.toNat q.sum.toNat, Part p := fun p hp => by
  obtain ⟨h1, h2⟩ := fine_num h
  exact (parts_part (by omega) hp).1
theorem smon_ev (p : List Int) (hl : p.length ≤ 4000000) : Evs (fun f => spec_MonomialOfSchur.f f p) (vec (fun q => kos p q) p) := by
  unfold spec_MonomialOfSchur.f
  simp only [Option.bind_some]
  refine (sfine_ev p hl).bind ?_
  unfold vec
  cases h : fineQ p with
  | false =>
    simp only [Bool.false_eq_true, if_false]
    exact Evs.pure _
  | true =>
    obtain ⟨h1, h2⟩ := fine_num h
    have hp := ((fineQ_iff p).1 h).1
    have hs := parts_small9 p.sum.toNat p.sum.toNat p.sum.toNat (by omega) (by omega)
    simp only [if_true]
    refine (size_ev p (by omega) (nn_of hp)).bind ((spo_ev h).bind ?_)
    exact smon_l0 p hp _ [] [] (by simp; omega) (by simp; omega) (parts_parts h)
theorem imon_ev (p : List Int) (hl : p.length ≤ 4000000) : Evs (fun f => impl_MonomialOfSchur.f f p) (vec (fun q => kos p q) p) := by
  unfold impl_MonomialOfSchur.f
  refine ivec_ev (fun f => impl_MonomialOfSchur.num f p) _ p hl fun h q hq => ?_
  exact ikos_ev ((fineQ_iff p).1 h).1 (parts_parts h q hq)
end Go.Proofs.YtppkfgcnmaifmaaGreatDoor.Hb
namespace Go.Proofs.YtppkfgcnmaifmaaGreatDoor.Hb
open Go.RowKit Go.Proofs.YtppkfgcnmaifmaaGreatDoorW.PrintWords Go.Proofs.YtppkfgcnmaifmaaGreatDoorW.PrintLast Go.Proofs.YtppkfgcnmaifmaaGreatDoorW.PrintMore
attribute [local go_sem] max2_int min2_int max_two min_two max_three min_three max_four min_four
set_option linter.unusedVariables false
set_option linter.unusedSimpArgs false
open Pu
theorem mon_law (l : List Int) (hl : l.length ≤ 9223372036854775807) : ∃ k, laws_FnExactMonomialOfSchur.f k l = some true := by
  refine Evs.get (r := true) ?_
  unfold laws_FnExactMonomialOfSchur.f
  by_cases hw1 : (l.length : Int) > 1048576
  · simp only [if_pos hw1]
    exact Evs.pure _
  simp only [if_neg hw1]
  have hR := vec_length (fun q => kos l q) l
  have i1 := imon_ev l (by omega)
  have s1 := smon_ev l (by omega)
  have tl := toInt_ev l (by omega)
  refine tl.bind (s1.bind (tl.bind (i1.bind ?_)))
  generalize vec (fun q => kos l q) l = R at hR i1
  refine (eqInt2_ev R (by omega)).bind ?_
  simp only [if_true]
  refine tl.bind ((eqInt_ev l (by omega)).bind ?_)
  simp only [if_true]
  refine (mark_ev l (by omega)).bind ?_
  have h0 : ¬ (1 : Int) + (l.length : Int) < 0 := by omega
  simp only [if_neg h0]
  refine (eqInt2_ev R (by omega)).bind ?_
  refine Evs.succ ?_
  simp only [laws_FnExactMonomialOfSchur.j0, Bool.not_true, Bool.false_eq_true, if_false]
  refine (mark_ev R (by omega)).bind ((held_ev R.length (by omega)).bind ?_)
  have h1 : ¬ (1 : Int) + (R.length : Int) < 0 := by omega
  simp only [if_neg h1, if_true]
  refine tl.bind (i1.bind ((eqInt2_ev R (by omega)).bind ?_))
  simp only [if_true]
  refine (held_ev R.length (by omega)).bind ?_
  simp only [if_neg h1, if_true]
  exact Evs.pure _
end Go.Proofs.YtppkfgcnmaifmaaGreatDoor.Hb
