/- What the proof of the law leans on, part 6 of 7: contracts of the functions that it reaches, the words they are told in (laid by the kit's print.sh, here only as far as they are used), and what they come to. -/
import Derived.Shelf.SlicesE.IndexFunc
import Derived.Test.YtppkfgcnmaifmaaDoorProg
import Derived.Below
import Derived.Deep.Draws
import Derived.Deep.AppendLies
import Derived.Maps.AppendAt
import Derived.OwnWalk
import Derived.Laws.BytesArg
import Derived.Laws.MakeOwn
import Derived.Laws.OwnMore
import Derived.Deep.OwnRows
import Derived.Tactics
import Derived.Lib.ConvBytes
import Derived.Laws.Slices
import Derived.WalkKit
import Derived.KernelRfl
import Derived.RowKit3
import Derived.Deep.LoopGhost
import Derived.Deep.QuietTactic
import Derived.BigQuiet
import Derived.WideLaws
import Derived.Deep.DeepCutAuto
import Derived.Deep.CutBlock
import Derived.Deep.RegionHeld3
import Derived.Laws.Rows
import Derived.Lib.AppendStr
import Derived.ArgAppend
import Derived.Laws.IdiomCopy
import Derived.OrdersHeld
import Derived.Laws.BitsLemmas
import Derived.RowKit
import Derived.Test.YtppkfgcnmaifmaaDoorVb5
namespace Go.Proofs.YtppkfgcnmaifmaaDoor.Hb
open Go.RowKit Go.Proofs.YtppkfgcnmaifmaaDoorW.PrintWords Go.Proofs.YtppkfgcnmaifmaaDoorW.PrintLast Go.Proofs.YtppkfgcnmaifmaaDoorW.PrintMore
attribute [local go_sem] max2_int min2_int max_two min_two max_three min_three max_four min_four   -- for this text's walks alone
set_option linter.unusedVariables false
set_option linter.unusedSimpArgs false
def impl_isWeight.bad (x : Int) : Bool := !(decide (0 ≤ x) && decide (x ≤ 9))
def impl_isWeight.f (l0 : List Int) : Option (Bool) := some (decide (l0.length ≤ 9) && !(l0.any impl_isWeight.bad))
set_option maxHeartbeats 4000000 in
set_option maxRecDepth 100000 in
theorem impl_isWeight.pred (w : World) : PredAt Tryd.prog 144 #[] (fun x : Int => Value.int .i64 x) impl_isWeight.bad w := fun W x _ => by
  unfold FnGives
  by_cases h1 : 0 ≤ x <;> by_cases h2 : x ≤ 9
  all_goals
    have hb : impl_isWeight.bad x = !(decide (0 ≤ x) && decide (x ≤ 9)) := rfl
    rw [hb]
    clear hb
    go_enter Tryd.func144, Tryd.ntmps144
    go_wp2
    go_ret
    exact ⟨by simp [h1, h2], 0, rfl⟩
theorem impl_isWeight.has (A0 : Option Addr) (c0 : Nat) (l0 : List Int) (w w1 : World) (hr0 : Kd.C (Kd.int .i64) w A0 l0.length l0) (hl : l0.length ≤ 9) (hb : Drawn0 w w1) :
    Calls Tryd.prog 122 #[.slice A0 l0.length c0, .func (.func 144) #[] #[]] w1 fun e w' => e = .returned (.bool (l0.any impl_isWeight.bad)) ∧ Drawn0 w w' := by
  obtain ⟨⟨q0, rfl⟩⟩ := hb
  rcases l0 with _ | ⟨x, xs⟩
  · refine (AnyE.slices_ContainsFunc_empty Go.Proofs.Tryd.conF A0 c0 _ _).mono ?_
    rintro e w' ⟨rfl, rfl⟩
    exact ⟨rfl, ⟨q0, rfl⟩⟩
  · obtain ⟨ad, rfl, hcell⟩ := hr0.2.2 (by simp)
    have hcells : ∀ (j : Nat) y, (x :: xs)[j]? = some y → w.cell? (ad.add j) = some (.int .i64 y) := by
      intro j y hy
      obtain ⟨c, _, hK, hu⟩ := hcell j y hy
      obtain rfl : c = [.int .i64 y] := hK
      have := hu 0 _ rfl
      rwa [show (Kd.int .i64 : Kd Int).sz = 1 from rfl, Nat.mul_one, Nat.add_zero] at this
    have h0 := hcells 0 x rfl
    have hsp : ad.spot = none := by
      unfold World.cell? Addr.add at h0
      simp only [if_true] at h0
      cases hs : ad.spot with
      | none => rfl
      | some s => rw [hs] at h0; (split at h0 <;> simp at h0)
    obtain ⟨bk, o, sp⟩ := ad
    subst hsp
    have hadd : ∀ j, (⟨bk, o, none⟩ : Addr).add j = ⟨bk, o + j, none⟩ := fun j => by unfold Addr.add; split <;> simp_all
    refine (AnyE.slices_ContainsFunc Go.Proofs.Tryd.conF (fun y : Int => Value.int .i64 y) impl_isWeight.bad 144 #[] (enters_of Tryd.func144 (by kernel_rfl) rfl) bk o (x :: xs).length c0 (x :: xs) _ (impl_isWeight.pred _) (Nat.le_refl _) (by omega) (fun j hj => ?_)).mono ?_
    · have := hcells j (x :: xs)[j]! (by rw [getElem!_pos _ j hj]; exact List.getElem?_eq_getElem hj)
      rw [hadd] at this
      exact this
    · rintro e w' ⟨rfl, q, rfl⟩
      exact ⟨by rw [List.take_length], ⟨q0 + q, by rw [World.drewN_drewN]⟩⟩
set_option maxHeartbeats 8000000 in
set_option maxRecDepth 100000 in
theorem impl_isWeight.calls (A0 : Option Addr) (c0 : Nat) (l0 : List Int) (r : Bool) (w : World) (hr0 : Kd.C (Kd.int .i64) w A0 l0.length l0) (hc0 : l0.length ≤ c0) (h : impl_isWeight.f l0 = some r) :
    Calls Tryd.prog 104 #[.slice A0 l0.length c0] w fun e w' => e = .returned (.bool r) ∧ Drawn0 w w' := by
  obtain rfl : (decide (l0.length ≤ 9) && !(l0.any impl_isWeight.bad)) = r := Option.some.inj h
  have HR0 := Aside0.mk hr0
  clear h hr0
  by_cases hl : l0.length ≤ 9
  · have hd : decide (l0.length ≤ 9) = true := decide_eq_true hl
    have hz : ((l0.length : Int) ≤ 9) := by omega
    have HL := Aside0.mk hl
    rw [hd]
    clear hd hl
    have HB := Aside0.mk (Drawn0.refl w)
    have hcall := fun (w1 : World) (hb : Drawn0 w w1) => impl_isWeight.has A0 c0 l0 w w1 HR0.out HL.out hb
    go_enter Tryd.func104, Tryd.ntmps104
    go_wp2_with (go_at_call 122; go_loud (refine (hcall _ (by repeat (first | exact Drawn0.refl _ | apply Drawn0.step))).mono ?_; rintro e w' ⟨rfl, hw'⟩; have HW := Aside0.mk hw'; clear hw'))
    go_ret
    exact ⟨by simp, by repeat (first | exact HW.out | apply Drawn0.step)⟩
  · have hd : decide (l0.length ≤ 9) = false := decide_eq_false hl
    have hz : ¬ ((l0.length : Int) ≤ 9) := by omega
    rw [hd]
    clear hd hl
    go_enter Tryd.func104, Tryd.ntmps104
    go_wp2
    go_ret
    exact ⟨by simp, by repeat (first | exact Drawn0.refl _ | apply Drawn0.step)⟩
def impl_TableauxOfWeight.f (k : Nat) (l0_0 : List Int) (l0_1 : List Int) (l1 : List Int) : Option ((List (S56))) := (impl_IsShape.f k l0_0 l0_1).bind fun t400 => (if t400 = true then ((impl_isWeight.f l1).bind fun t401 => (if t401 = true then ((impl_tableaux.f k l0_0 l0_1 l1).bind fun t402 => (some t402)) else (some ([] : List (S56))))) else (some ([] : List (S56))))
set_option maxHeartbeats 8000000 in
set_option maxRecDepth 100000 in
theorem impl_TableauxOfWeight.calls (k : Nat) (A0_0 : Option Addr) (c0_0 : Nat) (l0_0 : List Int) (A0_1 : Option Addr) (c0_1 : Nat) (l0_1 : List Int) (A1 : Option Addr) (c1 : Nat) (l1 : List Int) (r : List (S56)) (w : World) (hr0_0 : Kd.C (Kd.int .i64) w A0_0 l0_0.length l0_0) (hc0_0 : l0_0.length ≤ c0_0) (hr0_1 : Kd.C (Kd.int .i64) w A0_1 l0_1.length l0_1) (hc0_1 : l0_1.length ≤ c0_1) (hr1 : Kd.C (Kd.int .i64) w A1 l1.length l1) (hc1 : l1.length ≤ c1) (h : impl_TableauxOfWeight.f k l0_0 l0_1 l1 = some r) :
  Calls Tryd.prog 67 #[.agg #[.slice A0_0 l0_0.length c0_0, .slice A0_1 l0_1.length c0_1], .slice A1 l1.length c1] w fun e w' => ∃ v0_ : Value, e = .returned (v0_) ∧ Kd.R k56 56 w' w.heap.size (fun _ => True) v0_ r ∧ Below w.heap.size w w' := by
 have hu38 := Tryd.underlying38
 have HR0_0 := Aside0.mk hr0_0
 have HC0_0 := Aside0.mk hc0_0
 clear hr0_0 hc0_0
 have HR0_1 := Aside0.mk hr0_1
 have HC0_1 := Aside0.mk hc0_1
 clear hr0_1 hc0_1
 have HR1 := Aside0.mk hr1
 have HC1 := Aside0.mk hc1
 clear hr1 hc1
 have HB := Aside0.mk (Below.refl w.heap.size w)
 have H : ((impl_IsShape.f k l0_0 l0_1).bind fun t400 => (if t400 = true then ((impl_isWeight.f l1).bind fun t401 => (if t401 = true then ((impl_tableaux.f k l0_0 l0_1 l1).bind fun t402 => (some t402)) else (some ([] : List (S56))))) else (some ([] : List (S56))))) = some r := h
 clear h
 replace H := Option.bind_eq_some_iff.mp H
 obtain ⟨t400, A30, H⟩ := H
 replace H : (if t400 = true then ((impl_isWeight.f l1).bind fun t401 => (if t401 = true then ((impl_tableaux.f k l0_0 l0_1 l1).bind fun t402 => (some t402)) else (some ([] : List (S56))))) else (some ([] : List (S56)))) = some r := H
 have A3 := Aside0.mk A30
 clear A30
 by_cases c4 : t400 = true
 ·
  subst c4
  have H1 : ((impl_isWeight.f l1).bind fun t401 => (if t401 = true then ((impl_tableaux.f k l0_0 l0_1 l1).bind fun t402 => (some t402)) else (some ([] : List (S56))))) = some r := by rw [if_pos rfl] at H; exact H
  clear H
  have H := H1
  clear H1
  replace H := Option.bind_eq_some_iff.mp H
  obtain ⟨t401, A50, H⟩ := H
  replace H : (if t401 = true then ((impl_tableaux.f k l0_0 l0_1 l1).bind fun t402 => (some t402)) else (some ([] : List (S56)))) = some r := H
  have A5 := Aside0.mk A50
  clear A50
  by_cases c6 : t401 = true
  ·
   subst c6
   have H1 : ((impl_tableaux.f k l0_0 l0_1 l1).bind fun t402 => (some t402)) = some r := by rw [if_pos rfl] at H; exact H
   clear H
   have H := H1
   clear H1
   replace H := Option.bind_eq_some_iff.mp H
   obtain ⟨t402, A70, H⟩ := H
   replace H : (some t402) = some r := H
   have A7 := Aside0.mk A70
   clear A70
   obtain rfl := Option.some.inj H
   go_enter Tryd.func67, Tryd.ntmps67
   go_wp2_with (first | ((with_reducible refine gate_dst (N := 2) rfl ?_); refine box_event ?hg (N := 2) ?hd (cs := #[.slice A0_0 l0_0.length c0_0, .slice A0_1 l0_1.length c0_1]) (t := 38) ?hr ?_; (case hd => rfl); (case hg => rfl); (case hr => first | (go_simp; done) | (go_simp; rfl)); intro gb399 hg w8 hbox hb; have n0_ := Aside0.mk (below_step (by repeat (first | (with_reducible first | exact HB.out | apply below_alloc | apply pw_below_drewN | apply below_drew1) | exact HB.out)) hb); have n1_ := Aside0.mk (hbox); have n2_ := Aside0.mk ((by rw [hg]; exact (below_size (by repeat (first | (with_reducible first | exact HB.out | apply below_alloc | apply pw_below_drewN | apply below_drew1) | exact HB.out))) : w.heap.size ≤ gb399)); have n3_ := Aside0.mk ((by rw [hg]; exact (below_size (by repeat (first | (with_reducible first | exact HB.out | apply below_alloc | apply pw_below_drewN | apply below_drew1) | exact HB.out))) : w.heap.size ≤ gb399)); clear HB; have HB := n0_; have BK399 := n1_; have GW399 := n2_; have GE399 := n3_; clear n0_ n1_ n2_ n3_; clear hb hbox hg; have hcz9_0 : w8.cell? ⟨gb399, 0, none⟩ = some (.slice A0_0 l0_0.length c0_0) := (blk_cell BK399.out 0).trans rfl; have hcz9_1 : w8.cell? ⟨gb399, 1, none⟩ = some (.slice A0_1 l0_1.length c0_1) := (blk_cell BK399.out 1).trans rfl; have hfz9_0 := blk_frozen BK399.out 0; have hfz9_1 := blk_frozen BK399.out 1) | ((with_reducible refine gate_callee (f := 98) rfl ?_); refine goesL_ (some 6) rfl rfl Tryd.func98 (by kernel_rfl) rfl #[.agg #[.slice A0_0 l0_0.length c0_0, .slice A0_1 l0_1.length c0_1]] rfl (by (try simp only [List.map_toArray, List.map_cons, List.map_nil]); first | done | rfl | (simp only [List.length_drop, List.length_take]; rfl)) ?_; (with_reducible refine (impl_IsShape.calls k _ _ l0_0 _ _ l0_1 true _ ?side1 ?side2 ?side3 ?side4 A3.out).mono ?_); (case side1 => repeat (first | exact (Kd.C_below HR0_0.out HB.out) | (with_reducible refine Kd.C_alloc ?_ _) | (with_reducible refine Kd.C_drewN ?_ _) | (with_reducible refine Kd.C_drew ?_))); (case side2 => exact HC0_0.out); (case side3 => repeat (first | exact (Kd.C_below HR0_1.out HB.out) | (with_reducible refine Kd.C_alloc ?_ _) | (with_reducible refine Kd.C_drewN ?_ _) | (with_reducible refine Kd.C_drew ?_))); (case side4 => exact HC0_1.out); rintro e w10 ⟨rfl, hb⟩; refine ⟨_, rfl, ?_⟩; have n0_ := Aside0.mk (blk_below (g := gb399) (o := .cells #[.slice A0_0 l0_0.length c0_0, .slice A0_1 l0_1.length c0_1] 38 (0, 0)) (by (with_reducible repeat (first | refine blk_drewN ?_ _ | refine blk_drew ?_ | refine blk_alloc ?_ _)); exact BK399.out) hb); have n1_ := Aside0.mk (below_step (by repeat (first | (with_reducible first | exact HB.out | apply below_alloc | apply pw_below_drewN | apply below_drew1 | refine below_set ?_ GE399.out) | exact HB.out)) hb); clear BK399; clear HB; have BK399 := n0_; have HB := n1_; clear n0_ n1_; (try clear hb); (try clear hb2); (try clear hk); (try clear hi)) | (go_at_call 104; (with_reducible refine (impl_isWeight.calls _ _ l1 true _ ?side1 ?side2 A5.out).mono ?_); (case side1 => repeat (first | exact (Kd.C_below HR1.out HB.out) | (with_reducible refine Kd.C_alloc ?_ _) | (with_reducible refine Kd.C_drewN ?_ _) | (with_reducible refine Kd.C_drew ?_))); (case side2 => exact HC1.out); rintro e w' ⟨rfl, ⟨nd, rfl⟩⟩; have hcz11_0 : w10.cell? ⟨gb399, 0, none⟩ = some (.slice A0_0 l0_0.length c0_0) := (blk_cell BK399.out 0).trans rfl; have hcz11_1 : w10.cell? ⟨gb399, 1, none⟩ = some (.slice A0_1 l0_1.length c0_1) := (blk_cell BK399.out 1).trans rfl; have hfz11_0 := blk_frozen BK399.out 0; have hfz11_1 := blk_frozen BK399.out 1) | ((with_reducible refine gate_callee (f := 99) rfl ?_); refine goesL_ (some 15) rfl rfl Tryd.func99 (by kernel_rfl) rfl #[.agg #[.slice A0_0 l0_0.length c0_0, .slice A0_1 l0_1.length c0_1], .slice A1 l1.length c1] rfl (by (try simp only [List.map_toArray, List.map_cons, List.map_nil]); first | done | rfl | (simp only [List.length_drop, List.length_take]; rfl)) ?_; (with_reducible refine (impl_tableaux.calls k _ _ l0_0 _ _ l0_1 _ _ l1 t402 _ ?side1 ?side2 ?side3 ?side4 ?side5 ?side6 A7.out).mono ?_); (case side1 => repeat (first | exact (Kd.C_below HR0_0.out (by repeat (first | (with_reducible first | exact HB.out | apply below_alloc | apply pw_below_drewN | apply below_drew1 | refine below_set ?_ GE399.out) | exact HB.out))) | (with_reducible refine Kd.C_alloc ?_ _) | (with_reducible refine Kd.C_drewN ?_ _) | (with_reducible refine Kd.C_drew ?_))); (case side2 => exact HC0_0.out); (case side3 => repeat (first | exact (Kd.C_below HR0_1.out (by repeat (first | (with_reducible first | exact HB.out | apply below_alloc | apply pw_below_drewN | apply below_drew1 | refine below_set ?_ GE399.out) | exact HB.out))) | (with_reducible refine Kd.C_alloc ?_ _) | (with_reducible refine Kd.C_drewN ?_ _) | (with_reducible refine Kd.C_drew ?_))); (case side4 => exact HC0_1.out); (case side5 => repeat (first | exact (Kd.C_below HR1.out (by repeat (first | (with_reducible first | exact HB.out | apply below_alloc | apply pw_below_drewN | apply below_drew1 | refine below_set ?_ GE399.out) | exact HB.out))) | (with_reducible refine Kd.C_alloc ?_ _) | (with_reducible refine Kd.C_drewN ?_ _) | (with_reducible refine Kd.C_drew ?_))); (case side6 => exact HC1.out); rintro e w12 ⟨v403, rfl, ho0, hb⟩; refine ⟨_, rfl, ?_⟩; have n0_ := Aside0.mk (Kd.R_lower ho0 (below_size (by repeat (first | (with_reducible first | exact HB.out | apply below_alloc | apply pw_below_drewN | apply below_drew1 | refine below_set ?_ GE399.out) | exact HB.out)))); have n1_ := Aside0.mk (blk_below (g := gb399) (o := .cells #[.slice A0_0 l0_0.length c0_0, .slice A0_1 l0_1.length c0_1] 38 (0, 0)) (by (with_reducible repeat (first | refine blk_drewN ?_ _ | refine blk_drew ?_ | refine blk_alloc ?_ _)); exact BK399.out) hb); have n2_ := Aside0.mk (below_step (by repeat (first | (with_reducible first | exact HB.out | apply below_alloc | apply pw_below_drewN | apply below_drew1 | refine below_set ?_ GE399.out) | exact HB.out)) hb); clear BK399; clear HB; have HO404 := n0_; have BK399 := n1_; have HB := n2_; clear n0_ n1_ n2_; (try clear hb); (try clear hb2); (try clear hk); (try clear hi); (try clear ho0)))
   go_ret
   exact ⟨_, by first | rfl | (simp [errW_none, errW_some] <;> rfl) | (simp [*, errW_none, errW_some] <;> rfl), by (with_reducible repeat (first | apply Kd.R_alloc | apply Kd.R_drewN | apply Kd.R_drew)); exact HO404.out, by repeat (first | (with_reducible first | exact HB.out | apply below_alloc | apply pw_below_drewN | apply below_drew1 | refine below_set ?_ GE399.out) | exact HB.out)⟩
  ·
   replace c6 := Bool.eq_false_iff.mpr c6
   subst c6
   have H1 : (some ([] : List (S56))) = some r := by rw [if_neg (show ¬ (false = true) by decide)] at H; exact H
   clear H
   have H := H1
   clear H1
   obtain rfl := Option.some.inj H
   go_enter Tryd.func67, Tryd.ntmps67
   go_wp2_with (first | ((with_reducible refine gate_dst (N := 2) rfl ?_); refine box_event ?hg (N := 2) ?hd (cs := #[.slice A0_0 l0_0.length c0_0, .slice A0_1 l0_1.length c0_1]) (t := 38) ?hr ?_; (case hd => rfl); (case hg => rfl); (case hr => first | (go_simp; done) | (go_simp; rfl)); intro gb399 hg w13 hbox hb; have n0_ := Aside0.mk (below_step (by repeat (first | (with_reducible first | exact HB.out | apply below_alloc | apply pw_below_drewN | apply below_drew1) | exact HB.out)) hb); have n1_ := Aside0.mk (hbox); have n2_ := Aside0.mk ((by rw [hg]; exact (below_size (by repeat (first | (with_reducible first | exact HB.out | apply below_alloc | apply pw_below_drewN | apply below_drew1) | exact HB.out))) : w.heap.size ≤ gb399)); have n3_ := Aside0.mk ((by rw [hg]; exact (below_size (by repeat (first | (with_reducible first | exact HB.out | apply below_alloc | apply pw_below_drewN | apply below_drew1) | exact HB.out))) : w.heap.size ≤ gb399)); clear HB; have HB := n0_; have BK399 := n1_; have GW399 := n2_; have GE399 := n3_; clear n0_ n1_ n2_ n3_; clear hb hbox hg; have hcz14_0 : w13.cell? ⟨gb399, 0, none⟩ = some (.slice A0_0 l0_0.length c0_0) := (blk_cell BK399.out 0).trans rfl; have hcz14_1 : w13.cell? ⟨gb399, 1, none⟩ = some (.slice A0_1 l0_1.length c0_1) := (blk_cell BK399.out 1).trans rfl; have hfz14_0 := blk_frozen BK399.out 0; have hfz14_1 := blk_frozen BK399.out 1) | ((with_reducible refine gate_callee (f := 98) rfl ?_); refine goesL_ (some 6) rfl rfl Tryd.func98 (by kernel_rfl) rfl #[.agg #[.slice A0_0 l0_0.length c0_0, .slice A0_1 l0_1.length c0_1]] rfl (by (try simp only [List.map_toArray, List.map_cons, List.map_nil]); first | done | rfl | (simp only [List.length_drop, List.length_take]; rfl)) ?_; (with_reducible refine (impl_IsShape.calls k _ _ l0_0 _ _ l0_1 true _ ?side1 ?side2 ?side3 ?side4 A3.out).mono ?_); (case side1 => repeat (first | exact (Kd.C_below HR0_0.out HB.out) | (with_reducible refine Kd.C_alloc ?_ _) | (with_reducible refine Kd.C_drewN ?_ _) | (with_reducible refine Kd.C_drew ?_))); (case side2 => exact HC0_0.out); (case side3 => repeat (first | exact (Kd.C_below HR0_1.out HB.out) | (with_reducible refine Kd.C_alloc ?_ _) | (with_reducible refine Kd.C_drewN ?_ _) | (with_reducible refine Kd.C_drew ?_))); (case side4 => exact HC0_1.out); rintro e w15 ⟨rfl, hb⟩; refine ⟨_, rfl, ?_⟩; have n0_ := Aside0.mk (blk_below (g := gb399) (o := .cells #[.slice A0_0 l0_0.length c0_0, .slice A0_1 l0_1.length c0_1] 38 (0, 0)) (by (with_reducible repeat (first | refine blk_drewN ?_ _ | refine blk_drew ?_ | refine blk_alloc ?_ _)); exact BK399.out) hb); have n1_ := Aside0.mk (below_step (by repeat (first | (with_reducible first | exact HB.out | apply below_alloc | apply pw_below_drewN | apply below_drew1 | refine below_set ?_ GE399.out) | exact HB.out)) hb); clear BK399; clear HB; have BK399 := n0_; have HB := n1_; clear n0_ n1_; (try clear hb); (try clear hb2); (try clear hk); (try clear hi)) | (go_at_call 104; (with_reducible refine (impl_isWeight.calls _ _ l1 false _ ?side1 ?side2 A5.out).mono ?_); (case side1 => repeat (first | exact (Kd.C_below HR1.out HB.out) | (with_reducible refine Kd.C_alloc ?_ _) | (with_reducible refine Kd.C_drewN ?_ _) | (with_reducible refine Kd.C_drew ?_))); (case side2 => exact HC1.out); rintro e w' ⟨rfl, ⟨nd, rfl⟩⟩))
   go_ret
   exact ⟨_, by first | rfl | (simp [errW_none, errW_some] <;> rfl) | (simp [*, errW_none, errW_some] <;> rfl), by first | exact Kd.R_nil _ _ _ _ _ | exact Kd.N_nil _ _ _ _ _ | exact Kd.V_nil _ _ _ _ _ | exact Kd.Q_nil _ _ _ _ _ | exact Kd.S_nil _ _ _ _ _, by repeat (first | (with_reducible first | exact HB.out | apply below_alloc | apply pw_below_drewN | apply below_drew1 | refine below_set ?_ GE399.out) | exact HB.out)⟩
 ·
  replace c4 := Bool.eq_false_iff.mpr c4
  subst c4
  have H1 : (some ([] : List (S56))) = some r := by rw [if_neg (show ¬ (false = true) by decide)] at H; exact H
  clear H
  have H := H1
  clear H1
  obtain rfl := Option.some.inj H
  go_enter Tryd.func67, Tryd.ntmps67
  go_wp2_with (first | ((with_reducible refine gate_dst (N := 2) rfl ?_); refine box_event ?hg (N := 2) ?hd (cs := #[.slice A0_0 l0_0.length c0_0, .slice A0_1 l0_1.length c0_1]) (t := 38) ?hr ?_; (case hd => rfl); (case hg => rfl); (case hr => first | (go_simp; done) | (go_simp; rfl)); intro gb399 hg w16 hbox hb; have n0_ := Aside0.mk (below_step (by repeat (first | (with_reducible first | exact HB.out | apply below_alloc | apply pw_below_drewN | apply below_drew1) | exact HB.out)) hb); have n1_ := Aside0.mk (hbox); have n2_ := Aside0.mk ((by rw [hg]; exact (below_size (by repeat (first | (with_reducible first | exact HB.out | apply below_alloc | apply pw_below_drewN | apply below_drew1) | exact HB.out))) : w.heap.size ≤ gb399)); have n3_ := Aside0.mk ((by rw [hg]; exact (below_size (by repeat (first | (with_reducible first | exact HB.out | apply below_alloc | apply pw_below_drewN | apply below_drew1) | exact HB.out))) : w.heap.size ≤ gb399)); clear HB; have HB := n0_; have BK399 := n1_; have GW399 := n2_; have GE399 := n3_; clear n0_ n1_ n2_ n3_; clear hb hbox hg; have hcz17_0 : w16.cell? ⟨gb399, 0, none⟩ = some (.slice A0_0 l0_0.length c0_0) := (blk_cell BK399.out 0).trans rfl; have hcz17_1 : w16.cell? ⟨gb399, 1, none⟩ = some (.slice A0_1 l0_1.length c0_1) := (blk_cell BK399.out 1).trans rfl; have hfz17_0 := blk_frozen BK399.out 0; have hfz17_1 := blk_frozen BK399.out 1) | ((with_reducible refine gate_callee (f := 98) rfl ?_); refine goesL_ (some 6) rfl rfl Tryd.func98 (by kernel_rfl) rfl #[.agg #[.slice A0_0 l0_0.length c0_0, .slice A0_1 l0_1.length c0_1]] rfl (by (try simp only [List.map_toArray, List.map_cons, List.map_nil]); first | done | rfl | (simp only [List.length_drop, List.length_take]; rfl)) ?_; (with_reducible refine (impl_IsShape.calls k _ _ l0_0 _ _ l0_1 false _ ?side1 ?side2 ?side3 ?side4 A3.out).mono ?_); (case side1 => repeat (first | exact (Kd.C_below HR0_0.out HB.out) | (with_reducible refine Kd.C_alloc ?_ _) | (with_reducible refine Kd.C_drewN ?_ _) | (with_reducible refine Kd.C_drew ?_))); (case side2 => exact HC0_0.out); (case side3 => repeat (first | exact (Kd.C_below HR0_1.out HB.out) | (with_reducible refine Kd.C_alloc ?_ _) | (with_reducible refine Kd.C_drewN ?_ _) | (with_reducible refine Kd.C_drew ?_))); (case side4 => exact HC0_1.out); rintro e w18 ⟨rfl, hb⟩; refine ⟨_, rfl, ?_⟩; have n0_ := Aside0.mk (blk_below (g := gb399) (o := .cells #[.slice A0_0 l0_0.length c0_0, .slice A0_1 l0_1.length c0_1] 38 (0, 0)) (by (with_reducible repeat (first | refine blk_drewN ?_ _ | refine blk_drew ?_ | refine blk_alloc ?_ _)); exact BK399.out) hb); have n1_ := Aside0.mk (below_step (by repeat (first | (with_reducible first | exact HB.out | apply below_alloc | apply pw_below_drewN | apply below_drew1 | refine below_set ?_ GE399.out) | exact HB.out)) hb); clear BK399; clear HB; have BK399 := n0_; have HB := n1_; clear n0_ n1_; (try clear hb); (try clear hb2); (try clear hk); (try clear hi)))
  go_ret
  exact ⟨_, by first | rfl | (simp [errW_none, errW_some] <;> rfl) | (simp [*, errW_none, errW_some] <;> rfl), by first | exact Kd.R_nil _ _ _ _ _ | exact Kd.N_nil _ _ _ _ _ | exact Kd.V_nil _ _ _ _ _ | exact Kd.Q_nil _ _ _ _ _ | exact Kd.S_nil _ _ _ _ _, by repeat (first | (with_reducible first | exact HB.out | apply below_alloc | apply pw_below_drewN | apply below_drew1 | refine below_set ?_ GE399.out) | exact HB.out)⟩
def impl_KostkaNumber.f (k : Nat) (l0_0 : List Int) (l0_1 : List Int) (l1 : List Int) : Option (Int) := (impl_TableauxOfWeight.f k l0_0 l0_1 l1).bind fun t406 => (some (t406.length : Int))
set_option maxHeartbeats 8000000 in
set_option maxRecDepth 100000 in
theorem impl_KostkaNumber.calls (k : Nat) (A0_0 : Option Addr) (c0_0 : Nat) (l0_0 : List Int) (A0_1 : Option Addr) (c0_1 : Nat) (l0_1 : List Int) (A1 : Option Addr) (c1 : Nat) (l1 : List Int) (r : Int) (w : World) (hr0_0 : Kd.C (Kd.int .i64) w A0_0 l0_0.length l0_0) (hc0_0 : l0_0.length ≤ c0_0) (hr0_1 : Kd.C (Kd.int .i64) w A0_1 l0_1.length l0_1) (hc0_1 : l0_1.length ≤ c0_1) (hr1 : Kd.C (Kd.int .i64) w A1 l1.length l1) (hc1 : l1.length ≤ c1) (h : impl_KostkaNumber.f k l0_0 l0_1 l1 = some r) :
  Calls Tryd.prog 23 #[.agg #[.slice A0_0 l0_0.length c0_0, .slice A0_1 l0_1.length c0_1], .slice A1 l1.length c1] w fun e w' => e = .returned (.int .i64 r) ∧ Below w.heap.size w w' := by
 have hu38 := Tryd.underlying38
 have HR0_0 := Aside0.mk hr0_0
 have HC0_0 := Aside0.mk hc0_0
 clear hr0_0 hc0_0
 have HR0_1 := Aside0.mk hr0_1
 have HC0_1 := Aside0.mk hc0_1
 clear hr0_1 hc0_1
 have HR1 := Aside0.mk hr1
 have HC1 := Aside0.mk hc1
 clear hr1 hc1
 have HB := Aside0.mk (Below.refl w.heap.size w)
 have H : ((impl_TableauxOfWeight.f k l0_0 l0_1 l1).bind fun t406 => (some (t406.length : Int))) = some r := h
 clear h
 replace H := Option.bind_eq_some_iff.mp H
 obtain ⟨t406, A30, H⟩ := H
 replace H : (some (t406.length : Int)) = some r := H
 have A3 := Aside0.mk A30
 clear A30
 obtain rfl := Option.some.inj H
 go_enter Tryd.func23, Tryd.ntmps23
 go_wp2_with (first | ((with_reducible refine gate_dst (N := 2) rfl ?_); refine box_event ?hg (N := 2) ?hd (cs := #[.slice A0_0 l0_0.length c0_0, .slice A0_1 l0_1.length c0_1]) (t := 38) ?hr ?_; (case hd => rfl); (case hg => rfl); (case hr => first | (go_simp; done) | (go_simp; rfl)); intro gb405 hg w4 hbox hb; have n0_ := Aside0.mk (below_step (by repeat (first | (with_reducible first | exact HB.out | apply below_alloc | apply pw_below_drewN | apply below_drew1) | exact HB.out)) hb); have n1_ := Aside0.mk (hbox); have n2_ := Aside0.mk ((by rw [hg]; exact (below_size (by repeat (first | (with_reducible first | exact HB.out | apply below_alloc | apply pw_below_drewN | apply below_drew1) | exact HB.out))) : w.heap.size ≤ gb405)); have n3_ := Aside0.mk ((by rw [hg]; exact (below_size (by repeat (first | (with_reducible first | exact HB.out | apply below_alloc | apply pw_below_drewN | apply below_drew1) | exact HB.out))) : w.heap.size ≤ gb405)); clear HB; have HB := n0_; have BK405 := n1_; have GW405 := n2_; have GE405 := n3_; clear n0_ n1_ n2_ n3_; clear hb hbox hg; have hcz5_0 : w4.cell? ⟨gb405, 0, none⟩ = some (.slice A0_0 l0_0.length c0_0) := (blk_cell BK405.out 0).trans rfl; have hcz5_1 : w4.cell? ⟨gb405, 1, none⟩ = some (.slice A0_1 l0_1.length c0_1) := (blk_cell BK405.out 1).trans rfl; have hfz5_0 := blk_frozen BK405.out 0; have hfz5_1 := blk_frozen BK405.out 1) | ((with_reducible refine gate_callee (f := 67) rfl ?_); refine goesL_ (some 7) rfl rfl Tryd.func67 (by kernel_rfl) rfl #[.agg #[.slice A0_0 l0_0.length c0_0, .slice A0_1 l0_1.length c0_1], .slice A1 l1.length c1] rfl (by (try simp only [List.map_toArray, List.map_cons, List.map_nil]); first | done | rfl | (simp only [List.length_drop, List.length_take]; rfl)) ?_; (with_reducible refine (impl_TableauxOfWeight.calls k _ _ l0_0 _ _ l0_1 _ _ l1 t406 _ ?side1 ?side2 ?side3 ?side4 ?side5 ?side6 A3.out).mono ?_); (case side1 => repeat (first | exact (Kd.C_below HR0_0.out HB.out) | (with_reducible refine Kd.C_alloc ?_ _) | (with_reducible refine Kd.C_drewN ?_ _) | (with_reducible refine Kd.C_drew ?_))); (case side2 => exact HC0_0.out); (case side3 => repeat (first | exact (Kd.C_below HR0_1.out HB.out) | (with_reducible refine Kd.C_alloc ?_ _) | (with_reducible refine Kd.C_drewN ?_ _) | (with_reducible refine Kd.C_drew ?_))); (case side4 => exact HC0_1.out); (case side5 => repeat (first | exact (Kd.C_below HR1.out HB.out) | (with_reducible refine Kd.C_alloc ?_ _) | (with_reducible refine Kd.C_drewN ?_ _) | (with_reducible refine Kd.C_drew ?_))); (case side6 => exact HC1.out); rintro e w6 ⟨v407, rfl, ho0, hb⟩; refine ⟨_, rfl, ?_⟩; have n0_ := Aside0.mk (Kd.R_lower ho0 (below_size (by repeat (first | (with_reducible first | exact HB.out | apply below_alloc | apply pw_below_drewN | apply below_drew1 | refine below_set ?_ GE405.out) | exact HB.out)))); have n1_ := Aside0.mk (blk_below (g := gb405) (o := .cells #[.slice A0_0 l0_0.length c0_0, .slice A0_1 l0_1.length c0_1] 38 (0, 0)) (by (with_reducible repeat (first | refine blk_drewN ?_ _ | refine blk_drew ?_ | refine blk_alloc ?_ _)); exact BK405.out) hb); have n2_ := Aside0.mk (below_step (by repeat (first | (with_reducible first | exact HB.out | apply below_alloc | apply pw_below_drewN | apply below_drew1 | refine below_set ?_ GE405.out) | exact HB.out)) hb); clear BK405; clear HB; have HO408 := n0_; have BK405 := n1_; have HB := n2_; clear n0_ n1_ n2_; (try clear hb); (try clear hb2); (try clear hk); (try clear hi); (try clear ho0); obtain ⟨Ao7, co7, eo7⟩ := Kd.R_slice HO408.out; subst eo7))
 go_ret
 exact ⟨by first | rfl | (simp [errW_none, errW_some] <;> rfl) | (simp [*, errW_none, errW_some] <;> rfl), by repeat (first | (with_reducible first | exact HB.out | apply below_alloc | apply pw_below_drewN | apply below_drew1 | refine below_set ?_ GE405.out) | exact HB.out)⟩
def laws_FnExactKostkaNumber.f (k : Nat) (l0_0 : List Int) (l0_1 : List Int) (l1 : List Int) : Option (Bool) := if (l1.length : Int) > 1048576 then (some true) else ((laws_szShape.f l0_0 l0_1 1048576).bind fun t410 => (if t410 < 0 then (some true) else ((laws_toShape.f k l0_0 l0_1).bind fun bt411 => ((laws_toIntS.f k l1).bind fun t417 => ((spec_KostkaNumber.f k bt411.1 bt411.2 t417).bind fun t420 => ((laws_toShape.f k l0_0 l0_1).bind fun bt421 => ((laws_toIntS.f k l1).bind fun t428 => ((impl_KostkaNumber.f k bt421.1 bt421.2 t428).bind fun t431 => (if t431 = t420 then ((laws_toShape.f k l0_0 l0_1).bind fun bt432 => ((laws_eqShape.f k bt421.1 bt421.2 bt432.1 bt432.2).bind fun t438 => (if t438 = true then ((laws_toIntS.f k l1).bind fun t439 => ((laws_eqIntS.f k t428 t439).bind fun t442 => (if t442 = true then (some true) else (some false)))) else (some false)))) else (some false))))))))))
set_option maxHeartbeats 8000000 in
set_option maxRecDepth 100000 in
theorem laws_FnExactKostkaNumber.calls (k : Nat) (A0_0 : Option Addr) (c0_0 : Nat) (l0_0 : List Int) (A0_1 : Option Addr) (c0_1 : Nat) (l0_1 : List Int) (A1 : Option Addr) (c1 : Nat) (l1 : List Int) (r : Bool) (w : World) (hr0_0 : Kd.C (Kd.int .i64) w A0_0 l0_0.length l0_0) (hc0_0 : l0_0.length ≤ c0_0) (hr0_1 : Kd.C (Kd.int .i64) w A0_1 l0_1.length l0_1) (hc0_1 : l0_1.length ≤ c0_1) (hr1 : Kd.C (Kd.int .i64) w A1 l1.length l1) (hc1 : l1.length ≤ c1) (h : laws_FnExactKostkaNumber.f k l0_0 l0_1 l1 = some r) :
  Calls Tryd.prog 6 #[.agg #[.slice A0_0 l0_0.length c0_0, .slice A0_1 l0_1.length c0_1], .slice A1 l1.length c1] w fun e w' => e = .returned (.bool r) ∧ Below w.heap.size w w' := by
 have hu35 := Tryd.underlying35
 have hu38 := Tryd.underlying38
 have HR0_0 := Aside0.mk hr0_0
 have HC0_0 := Aside0.mk hc0_0
 clear hr0_0 hc0_0
 have HR0_1 := Aside0.mk hr0_1
 have HC0_1 := Aside0.mk hc0_1
 clear hr0_1 hc0_1
 have HR1 := Aside0.mk hr1
 have HC1 := Aside0.mk hc1
 clear hr1 hc1
 have HB := Aside0.mk (Below.refl w.heap.size w)
 have H : (if (l1.length : Int) > 1048576 then (some true) else ((laws_szShape.f l0_0 l0_1 1048576).bind fun t410 => (if t410 < 0 then (some true) else ((laws_toShape.f k l0_0 l0_1).bind fun bt411 => ((laws_toIntS.f k l1).bind fun t417 => ((spec_KostkaNumber.f k bt411.1 bt411.2 t417).bind fun t420 => ((laws_toShape.f k l0_0 l0_1).bind fun bt421 => ((laws_toIntS.f k l1).bind fun t428 => ((impl_KostkaNumber.f k bt421.1 bt421.2 t428).bind fun t431 => (if t431 = t420 then ((laws_toShape.f k l0_0 l0_1).bind fun bt432 => ((laws_eqShape.f k bt421.1 bt421.2 bt432.1 bt432.2).bind fun t438 => (if t438 = true then ((laws_toIntS.f k l1).bind fun t439 => ((laws_eqIntS.f k t428 t439).bind fun t442 => (if t442 = true then (some true) else (some false)))) else (some false)))) else (some false))))))))))) = some r := h
 clear h
 by_cases c3 : (l1.length : Int) > 1048576
 ·
  rw [if_pos c3] at H
  have c3b0 : decide (1048576 < (l1.length : Int)) = true := decide_eq_true c3
  have c3b1 : decide (1048576 < l1.length) = true := decide_eq_true (by omega)
  clear c3
  obtain rfl := Option.some.inj H
  go_enter Tryd.func6, Tryd.ntmps6
  go_wp2_with (first | ((with_reducible refine gate_dst (N := 2) rfl ?_); refine box_event ?hg (N := 2) ?hd (cs := #[.slice A0_0 l0_0.length c0_0, .slice A0_1 l0_1.length c0_1]) (t := 35) ?hr ?_; (case hd => rfl); (case hg => rfl); (case hr => first | (go_simp; done) | (go_simp; rfl)); intro gb409 hg w4 hbox hb; have n0_ := Aside0.mk (below_step (by repeat (first | (with_reducible first | exact HB.out | apply below_alloc | apply pw_below_drewN | apply below_drew1) | exact HB.out)) hb); have n1_ := Aside0.mk (hbox); have n2_ := Aside0.mk ((by rw [hg]; exact (below_size (by repeat (first | (with_reducible first | exact HB.out | apply below_alloc | apply pw_below_drewN | apply below_drew1) | exact HB.out))) : w.heap.size ≤ gb409)); have n3_ := Aside0.mk ((by rw [hg]; exact (below_size (by repeat (first | (with_reducible first | exact HB.out | apply below_alloc | apply pw_below_drewN | apply below_drew1) | exact HB.out))) : w.heap.size ≤ gb409)); clear HB; have HB := n0_; have BK409 := n1_; have GW409 := n2_; have GE409 := n3_; clear n0_ n1_ n2_ n3_; clear hb hbox hg))
  go_ret
  exact ⟨by first | rfl | (simp [errW_none, errW_some] <;> rfl) | (simp [*, errW_none, errW_some] <;> rfl), by repeat (first | (with_reducible first | exact HB.out | apply below_alloc | apply pw_below_drewN | apply below_drew1 | refine below_set ?_ GE409.out) | exact HB.out)⟩
 ·
  rw [if_neg c3] at H
  have c3b0 : decide (1048576 < (l1.length : Int)) = false := decide_eq_false c3
  have c3b1 : decide (1048576 < l1.length) = false := decide_eq_false (by omega)
  clear c3
  replace H := Option.bind_eq_some_iff.mp H
  obtain ⟨t410, A50, H⟩ := H
  replace H : (if t410 < 0 then (some true) else ((laws_toShape.f k l0_0 l0_1).bind fun bt411 => ((laws_toIntS.f k l1).bind fun t417 => ((spec_KostkaNumber.f k bt411.1 bt411.2 t417).bind fun t420 => ((laws_toShape.f k l0_0 l0_1).bind fun bt421 => ((laws_toIntS.f k l1).bind fun t428 => ((impl_KostkaNumber.f k bt421.1 bt421.2 t428).bind fun t431 => (if t431 = t420 then ((laws_toShape.f k l0_0 l0_1).bind fun bt432 => ((laws_eqShape.f k bt421.1 bt421.2 bt432.1 bt432.2).bind fun t438 => (if t438 = true then ((laws_toIntS.f k l1).bind fun t439 => ((laws_eqIntS.f k t428 t439).bind fun t442 => (if t442 = true then (some true) else (some false)))) else (some false)))) else (some false))))))))) = some r := H
  have A5 := Aside0.mk A50
  clear A50
  by_cases c6 : t410 < 0
  ·
   rw [if_pos c6] at H
   have c6b0 : decide (t410 < 0) = true := decide_eq_true c6
   clear c6
   obtain rfl := Option.some.inj H
   go_enter Tryd.func6, Tryd.ntmps6
   go_wp2_with (first | ((with_reducible refine gate_dst (N := 2) rfl ?_); refine box_event ?hg (N := 2) ?hd (cs := #[.slice A0_0 l0_0.length c0_0, .slice A0_1 l0_1.length c0_1]) (t := 35) ?hr ?_; (case hd => rfl); (case hg => rfl); (case hr => first | (go_simp; done) | (go_simp; rfl)); intro gb409 hg w7 hbox hb; have n0_ := Aside0.mk (below_step (by repeat (first | (with_reducible first | exact HB.out | apply below_alloc | apply pw_below_drewN | apply below_drew1) | exact HB.out)) hb); have n1_ := Aside0.mk (hbox); have n2_ := Aside0.mk ((by rw [hg]; exact (below_size (by repeat (first | (with_reducible first | exact HB.out | apply below_alloc | apply pw_below_drewN | apply below_drew1) | exact HB.out))) : w.heap.size ≤ gb409)); have n3_ := Aside0.mk ((by rw [hg]; exact (below_size (by repeat (first | (with_reducible first | exact HB.out | apply below_alloc | apply pw_below_drewN | apply below_drew1) | exact HB.out))) : w.heap.size ≤ gb409)); clear HB; have HB := n0_; have BK409 := n1_; have GW409 := n2_; have GE409 := n3_; clear n0_ n1_ n2_ n3_; clear hb hbox hg; have hcz8_0 : w7.cell? ⟨gb409, 0, none⟩ = some (.slice A0_0 l0_0.length c0_0) := (blk_cell BK409.out 0).trans rfl; have hcz8_1 : w7.cell? ⟨gb409, 1, none⟩ = some (.slice A0_1 l0_1.length c0_1) := (blk_cell BK409.out 1).trans rfl; have hfz8_0 := blk_frozen BK409.out 0; have hfz8_1 := blk_frozen BK409.out 1) | ((with_reducible refine gate_callee (f := 17) rfl ?_); refine goesL_ (some 15) rfl rfl Tryd.func17 (by kernel_rfl) rfl #[.agg #[.slice A0_0 l0_0.length c0_0, .slice A0_1 l0_1.length c0_1], .int .i64 1048576] rfl (by (try simp only [List.map_toArray, List.map_cons, List.map_nil]); first | done | rfl | (simp only [List.length_drop, List.length_take]; rfl)) ?_; (with_reducible refine (laws_szShape.calls _ _ l0_0 _ _ l0_1 1048576 t410 _ ?side1 ?side2 ?side3 ?side4 A5.out).mono ?_); (case side1 => repeat (first | exact (Kd.C_below HR0_0.out HB.out) | (with_reducible refine Kd.C_alloc ?_ _) | (with_reducible refine Kd.C_drewN ?_ _) | (with_reducible refine Kd.C_drew ?_))); (case side2 => exact HC0_0.out); (case side3 => repeat (first | exact (Kd.C_below HR0_1.out HB.out) | (with_reducible refine Kd.C_alloc ?_ _) | (with_reducible refine Kd.C_drewN ?_ _) | (with_reducible refine Kd.C_drew ?_))); (case side4 => exact HC0_1.out); rintro e w9 ⟨rfl, hb⟩; refine ⟨_, rfl, ?_⟩; have n0_ := Aside0.mk (blk_below (g := gb409) (o := .cells #[.slice A0_0 l0_0.length c0_0, .slice A0_1 l0_1.length c0_1] 35 (0, 0)) (by (with_reducible repeat (first | refine blk_drewN ?_ _ | refine blk_drew ?_ | refine blk_alloc ?_ _)); exact BK409.out) hb); have n1_ := Aside0.mk (below_step (by repeat (first | (with_reducible first | exact HB.out | apply below_alloc | apply pw_below_drewN | apply below_drew1 | refine below_set ?_ GE409.out) | exact HB.out)) hb); clear BK409; clear HB; have BK409 := n0_; have HB := n1_; clear n0_ n1_; (try clear hb); (try clear hb2); (try clear hk); (try clear hi)))
   go_ret
   exact ⟨by first | rfl | (simp [errW_none, errW_some] <;> rfl) | (simp [*, errW_none, errW_some] <;> rfl), by repeat (first | (with_reducible first | exact HB.out | apply below_alloc | apply pw_below_drewN | apply below_drew1 | refine below_set ?_ GE409.out) | exact HB.out)⟩
  ·
   rw [if_neg c6] at H
   have c6b0 : decide (t410 < 0) = false := decide_eq_false c6
   clear c6
   replace H := Option.bind_eq_some_iff.mp H
   obtain ⟨⟨t411, t414⟩, A100, H⟩ := H
   replace H : ((laws_toIntS.f k l1).bind fun t417 => ((spec_KostkaNumber.f k t411 t414 t417).bind fun t420 => ((laws_toShape.f k l0_0 l0_1).bind fun bt421 => ((laws_toIntS.f k l1).bind fun t428 => ((impl_KostkaNumber.f k bt421.1 bt421.2 t428).bind fun t431 => (if t431 = t420 then ((laws_toShape.f k l0_0 l0_1).bind fun bt432 => ((laws_eqShape.f k bt421.1 bt421.2 bt432.1 bt432.2).bind fun t438 => (if t438 = true then ((laws_toIntS.f k l1).bind fun t439 => ((laws_eqIntS.f k t428 t439).bind fun t442 => (if t442 = true then (some true) else (some false)))) else (some false)))) else (some false))))))) = some r := H
   have A10 := Aside0.mk A100
   clear A100
   replace H := Option.bind_eq_some_iff.mp H
   obtain ⟨t417, A110, H⟩ := H
   replace H : ((spec_KostkaNumber.f k t411 t414 t417).bind fun t420 => ((laws_toShape.f k l0_0 l0_1).bind fun bt421 => ((laws_toIntS.f k l1).bind fun t428 => ((impl_KostkaNumber.f k bt421.1 bt421.2 t428).bind fun t431 => (if t431 = t420 then ((laws_toShape.f k l0_0 l0_1).bind fun bt432 => ((laws_eqShape.f k bt421.1 bt421.2 bt432.1 bt432.2).bind fun t438 => (if t438 = true then ((laws_toIntS.f k l1).bind fun t439 => ((laws_eqIntS.f k t428 t439).bind fun t442 => (if t442 = true then (some true) else (some false)))) else (some false)))) else (some false)))))) = some r := H
   have A11 := Aside0.mk A110
   clear A110
   replace H := Option.bind_eq_some_iff.mp H
   obtain ⟨t420, A120, H⟩ := H
   replace H : ((laws_toShape.f k l0_0 l0_1).bind fun bt421 => ((laws_toIntS.f k l1).bind fun t428 => ((impl_KostkaNumber.f k bt421.1 bt421.2 t428).bind fun t431 => (if t431 = t420 then ((laws_toShape.f k l0_0 l0_1).bind fun bt432 => ((laws_eqShape.f k bt421.1 bt421.2 bt432.1 bt432.2).bind fun t438 => (if t438 = true then ((laws_toIntS.f k l1).bind fun t439 => ((laws_eqIntS.f k t428 t439).bind fun t442 => (if t442 = true then (some true) else (some false)))) else (some false)))) else (some false))))) = some r := H
   have A12 := Aside0.mk A120
   clear A120
   replace H := Option.bind_eq_some_iff.mp H
   obtain ⟨⟨t421, t424⟩, A130, H⟩ := H
   replace H : ((laws_toIntS.f k l1).bind fun t428 => ((impl_KostkaNumber.f k t421 t424 t428).bind fun t431 => (if t431 = t420 then ((laws_toShape.f k l0_0 l0_1).bind fun bt432 => ((laws_eqShape.f k t421 t424 bt432.1 bt432.2).bind fun t438 => (if t438 = true then ((laws_toIntS.f k l1).bind fun t439 => ((laws_eqIntS.f k t428 t439).bind fun t442 => (if t442 = true then (some true) else (some false)))) else (some false)))) else (some false)))) = some r := H
   have A13 := Aside0.mk A130
   clear A130
   replace H := Option.bind_eq_some_iff.mp H
   obtain ⟨t428, A140, H⟩ := H
   replace H : ((impl_KostkaNumber.f k t421 t424 t428).bind fun t431 => (if t431 = t420 then ((laws_toShape.f k l0_0 l0_1).bind fun bt432 => ((laws_eqShape.f k t421 t424 bt432.1 bt432.2).bind fun t438 => (if t438 = true then ((laws_toIntS.f k l1).bind fun t439 => ((laws_eqIntS.f k t428 t439).bind fun t442 => (if t442 = true then (some true) else (some false)))) else (some false)))) else (some false))) = some r := H
   have A14 := Aside0.mk A140
   clear A140
   replace H := Option.bind_eq_some_iff.mp H
   obtain ⟨t431, A150, H⟩ := H
   replace H : (if t431 = t420 then ((laws_toShape.f k l0_0 l0_1).bind fun bt432 => ((laws_eqShape.f k t421 t424 bt432.1 bt432.2).bind fun t438 => (if t438 = true then ((laws_toIntS.f k l1).bind fun t439 => ((laws_eqIntS.f k t428 t439).bind fun t442 => (if t442 = true then (some true) else (some false)))) else (some false)))) else (some false)) = some r := H
   have A15 := Aside0.mk A150
   clear A150
   by_cases c16 : t431 = t420
   ·
    rw [if_pos c16] at H
    have c16b0 : (t431 == t420) = true := beq_iff_eq.mpr c16
    have c16b1 : (t431 != t420) = false := bne_eq_false_iff_eq.mpr c16
    clear c16
    replace H := Option.bind_eq_some_iff.mp H
    obtain ⟨⟨t432, t435⟩, A170, H⟩ := H
    replace H : ((laws_eqShape.f k t421 t424 t432 t435).bind fun t438 => (if t438 = true then ((laws_toIntS.f k l1).bind fun t439 => ((laws_eqIntS.f k t428 t439).bind fun t442 => (if t442 = true then (some true) else (some false)))) else (some false))) = some r := H
    have A17 := Aside0.mk A170
    clear A170
    replace H := Option.bind_eq_some_iff.mp H
    obtain ⟨t438, A180, H⟩ := H
    replace H : (if t438 = true then ((laws_toIntS.f k l1).bind fun t439 => ((laws_eqIntS.f k t428 t439).bind fun t442 => (if t442 = true then (some true) else (some false)))) else (some false)) = some r := H
    have A18 := Aside0.mk A180
    clear A180
    by_cases c19 : t438 = true
    ·
     subst c19
     have H1 : ((laws_toIntS.f k l1).bind fun t439 => ((laws_eqIntS.f k t428 t439).bind fun t442 => (if t442 = true then (some true) else (some false)))) = some r := by rw [if_pos rfl] at H; exact H
     clear H
     have H := H1
     clear H1
     replace H := Option.bind_eq_some_iff.mp H
     obtain ⟨t439, A200, H⟩ := H
     replace H : ((laws_eqIntS.f k t428 t439).bind fun t442 => (if t442 = true then (some true) else (some false))) = some r := H
     have A20 := Aside0.mk A200
     clear A200
     replace H := Option.bind_eq_some_iff.mp H
     obtain ⟨t442, A210, H⟩ := H
     replace H : (if t442 = true then (some true) else (some false)) = some r := H
     have A21 := Aside0.mk A210
     clear A210
     by_cases c22 : t442 = true
     ·
      subst c22
      have H1 : (some true) = some r := by rw [if_pos rfl] at H; exact H
      clear H
      have H := H1
      clear H1
      obtain rfl := Option.some.inj H
      go_enter Tryd.func6, Tryd.ntmps6
      try go_wp2_with (first | ((with_reducible refine gate_dst (N := 2) rfl ?_); refine box_event ?hg (N := 2) ?hd (cs := #[.slice A0_0 l0_0.length c0_0, .slice A0_1 l0_1.length c0_1]) (t := 35) ?hr ?_; (case hd => rfl); (case hg => rfl); (case hr => first | (go_simp; done) | (go_simp; rfl)); intro gb409 hg w23 hbox hb; have n0_ := Aside0.mk (below_step (by repeat (first | (with_reducible first | exact HB.out | apply below_alloc | apply pw_below_drewN | apply below_drew1) | exact HB.out)) hb); have n1_ := Aside0.mk (hbox); have n2_ := Aside0.mk ((by rw [hg]; exact (below_size (by repeat (first | (with_reducible first | exact HB.out | apply below_alloc | apply pw_below_drewN | apply below_drew1) | exact HB.out))) : w.heap.size ≤ gb409)); have n3_ := Aside0.mk ((by rw [hg]; exact (below_size (by repeat (first | (with_reducible first | exact HB.out | apply below_alloc | apply pw_below_drewN | apply below_drew1) | exact HB.out))) : w.heap.size ≤ gb409)); clear HB; have HB := n0_; have BK409 := n1_; have GW409 := n2_; have GE409 := n3_; clear n0_ n1_ n2_ n3_; clear hb hbox hg; have hcz24_0 : w23.cell? ⟨gb409, 0, none⟩ = some (.slice A0_0 l0_0.length c0_0) := (blk_cell BK409.out 0).trans rfl; have hcz24_1 : w23.cell? ⟨gb409, 1, none⟩ = some (.slice A0_1 l0_1.length c0_1) := (blk_cell BK409.out 1).trans rfl; have hfz24_0 := blk_frozen BK409.out 0; have hfz24_1 := blk_frozen BK409.out 1) | ((with_reducible refine gate_callee (f := 17) rfl ?_); refine goesL_ (some 15) rfl rfl Tryd.func17 (by kernel_rfl) rfl #[.agg #[.slice A0_0 l0_0.length c0_0, .slice A0_1 l0_1.length c0_1], .int .i64 1048576] rfl (by (try simp only [List.map_toArray, List.map_cons, List.map_nil]); first | done | rfl | (simp only [List.length_drop, List.length_take]; rfl)) ?_; (with_reducible refine (laws_szShape.calls _ _ l0_0 _ _ l0_1 1048576 t410 _ ?side1 ?side2 ?side3 ?side4 A5.out).mono ?_); (case side1 => repeat (first | exact (Kd.C_below HR0_0.out HB.out) | (with_reducible refine Kd.C_alloc ?_ _) | (with_reducible refine Kd.C_drewN ?_ _) | (with_reducible refine Kd.C_drew ?_))); (case side2 => exact HC0_0.out); (case side3 => repeat (first | exact (Kd.C_below HR0_1.out HB.out) | (with_reducible refine Kd.C_alloc ?_ _) | (with_reducible refine Kd.C_drewN ?_ _) | (with_reducible refine Kd.C_drew ?_))); (case side4 => exact HC0_1.out); rintro e w25 ⟨rfl, hb⟩; refine ⟨_, rfl, ?_⟩; have n0_ := Aside0.mk (blk_below (g := gb409) (o := .cells #[.slice A0_0 l0_0.length c0_0, .slice A0_1 l0_1.length c0_1] 35 (0, 0)) (by (with_reducible repeat (first | refine blk_drewN ?_ _ | refine blk_drew ?_ | refine blk_alloc ?_ _)); exact BK409.out) hb); have n1_ := Aside0.mk (below_step (by repeat (first | (with_reducible first | exact HB.out | apply below_alloc | apply pw_below_drewN | apply below_drew1 | refine below_set ?_ GE409.out) | exact HB.out)) hb); clear BK409; clear HB; have BK409 := n0_; have HB := n1_; clear n0_ n1_; (try clear hb); (try clear hb2); (try clear hk); (try clear hi); have hcz26_0 : w25.cell? ⟨gb409, 0, none⟩ = some (.slice A0_0 l0_0.length c0_0) := (blk_cell BK409.out 0).trans rfl; have hcz26_1 : w25.cell? ⟨gb409, 1, none⟩ = some (.slice A0_1 l0_1.length c0_1) := (blk_cell BK409.out 1).trans rfl; have hfz26_0 := blk_frozen BK409.out 0; have hfz26_1 := blk_frozen BK409.out 1) | ((with_reducible refine gate_callee (f := 19) rfl ?_); refine goesL_ (some 19) rfl rfl Tryd.func19 (by kernel_rfl) rfl #[.agg #[.slice A0_0 l0_0.length c0_0, .slice A0_1 l0_1.length c0_1]] rfl (by (try simp only [List.map_toArray, List.map_cons, List.map_nil]); first | done | rfl | (simp only [List.length_drop, List.length_take]; rfl)) ?_; (with_reducible refine (laws_toShape.calls k _ _ l0_0 _ _ l0_1 t411 t414 _ ?side1 ?side2 ?side3 ?side4 A10.out).mono ?_); (case side1 => repeat (first | exact (Kd.C_below HR0_0.out HB.out) | (with_reducible refine Kd.C_alloc ?_ _) | (with_reducible refine Kd.C_drewN ?_ _) | (with_reducible refine Kd.C_drew ?_))); (case side2 => exact HC0_0.out); (case side3 => repeat (first | exact (Kd.C_below HR0_1.out HB.out) | (with_reducible refine Kd.C_alloc ?_ _) | (with_reducible refine Kd.C_drewN ?_ _) | (with_reducible refine Kd.C_drew ?_))); (case side4 => exact HC0_1.out); rintro e w27 ⟨v412, v415, rfl, ho0, ho1, hb⟩; refine ⟨_, rfl, ?_⟩; have n0_ := Aside0.mk (Kd.R_lower ho0 (below_size (by repeat (first | (with_reducible first | exact HB.out | apply below_alloc | apply pw_below_drewN | apply below_drew1 | refine below_set ?_ GE409.out) | exact HB.out)))); have n1_ := Aside0.mk (Kd.R_lower ho1 (below_size (by repeat (first | (with_reducible first | exact HB.out | apply below_alloc | apply pw_below_drewN | apply below_drew1 | refine below_set ?_ GE409.out) | exact HB.out)))); have n2_ := Aside0.mk (blk_below (g := gb409) (o := .cells #[.slice A0_0 l0_0.length c0_0, .slice A0_1 l0_1.length c0_1] 35 (0, 0)) (by (with_reducible repeat (first | refine blk_drewN ?_ _ | refine blk_drew ?_ | refine blk_alloc ?_ _)); exact BK409.out) hb); have n3_ := Aside0.mk (below_step (by repeat (first | (with_reducible first | exact HB.out | apply below_alloc | apply pw_below_drewN | apply below_drew1 | refine below_set ?_ GE409.out) | exact HB.out)) hb); clear BK409; clear HB; have HO413 := n0_; have HO416 := n1_; have BK409 := n2_; have HB := n3_; clear n0_ n1_ n2_ n3_; (try clear hb); (try clear hb2); (try clear hk); (try clear hi); (try clear ho0); (try clear ho1)) | ((with_reducible refine gate_callee (f := 8) rfl ?_); refine goesL_ (some 21) rfl rfl Tryd.func8 (by kernel_rfl) rfl #[.slice A1 l1.length c1] rfl (by (try simp only [List.map_toArray, List.map_cons, List.map_nil]); first | done | rfl | (simp only [List.length_drop, List.length_take]; rfl)) ?_; (with_reducible refine (laws_toIntS.calls k _ _ l1 t417 _ ?side1 ?side2 A11.out).mono ?_); (case side1 => repeat (first | exact (Kd.C_below HR1.out HB.out) | (with_reducible refine Kd.C_alloc ?_ _) | (with_reducible refine Kd.C_drewN ?_ _) | (with_reducible refine Kd.C_drew ?_))); (case side2 => exact HC1.out); rintro e w28 ⟨v418, rfl, ho0, hb⟩; refine ⟨_, rfl, ?_⟩; have n0_ := Aside0.mk (Kd.R_elder' (by (with_reducible repeat (first | apply Kd.R_alloc | apply Kd.R_drewN | apply Kd.R_drew)); exact HO413.out) (Kd.R_base ho0) hb); have n1_ := Aside0.mk (Kd.R_elder' (by (with_reducible repeat (first | apply Kd.R_alloc | apply Kd.R_drewN | apply Kd.R_drew)); exact HO416.out) (Kd.R_base ho0) hb); have n2_ := Aside0.mk (Kd.R_lower (Kd.R_new' (Kd.R_new' ho0 (Kd.R_lt (by (with_reducible repeat (first | apply Kd.R_alloc | apply Kd.R_drewN | apply Kd.R_drew)); exact HO413.out))) (Kd.R_lt (by (with_reducible repeat (first | apply Kd.R_alloc | apply Kd.R_drewN | apply Kd.R_drew)); exact HO416.out))) (below_size (by repeat (first | (with_reducible first | exact HB.out | apply below_alloc | apply pw_below_drewN | apply below_drew1 | refine below_set ?_ GE409.out) | exact HB.out)))); have n3_ := Aside0.mk (blk_below (g := gb409) (o := .cells #[.slice A0_0 l0_0.length c0_0, .slice A0_1 l0_1.length c0_1] 35 (0, 0)) (by (with_reducible repeat (first | refine blk_drewN ?_ _ | refine blk_drew ?_ | refine blk_alloc ?_ _)); exact BK409.out) hb); have n4_ := Aside0.mk (below_step (by repeat (first | (with_reducible first | exact HB.out | apply below_alloc | apply pw_below_drewN | apply below_drew1 | refine below_set ?_ GE409.out) | exact HB.out)) hb); clear HO413; clear HO416; clear BK409; clear HB; have HO413 := n0_; have HO416 := n1_; have HO419 := n2_; have BK409 := n3_; have HB := n4_; clear n0_ n1_ n2_ n3_ n4_; (try clear hb); (try clear hb2); (try clear hk); (try clear hi); (try clear ho0); obtain ⟨Ao29, co29, eo29⟩ := Kd.R_slice HO413.out; subst eo29; obtain ⟨Ao30, co30, eo30⟩ := Kd.R_slice HO416.out; subst eo30; obtain ⟨Ao31, co31, eo31⟩ := Kd.R_slice HO419.out; subst eo31) | ((with_reducible refine gate_callee (f := 22) rfl ?_); refine goesL_ (some 22) rfl rfl Tryd.func22 (by kernel_rfl) rfl #[.agg #[.slice Ao29 t411.length co29, .slice Ao30 t414.length co30], .slice Ao31 t417.length co31] rfl (by (try simp only [List.map_toArray, List.map_cons, List.map_nil]); first | done | rfl | (simp only [List.length_drop, List.length_take]; rfl)) ?_; (with_reducible refine (spec_KostkaNumber.calls k _ _ t411 _ _ t414 _ _ t417 t420 _ ?side1 ?side2 ?side3 ?side4 ?side5 ?side6 A12.out).mono ?_); (case side1 => repeat (first | exact (Kd.R_reads' HO413.out).2.2 | (with_reducible refine Kd.C_alloc ?_ _) | (with_reducible refine Kd.C_drewN ?_ _) | (with_reducible refine Kd.C_drew ?_))); (case side2 => exact (Kd.R_reads' HO413.out).2.1); (case side3 => repeat (first | exact (Kd.R_reads' HO416.out).2.2 | (with_reducible refine Kd.C_alloc ?_ _) | (with_reducible refine Kd.C_drewN ?_ _) | (with_reducible refine Kd.C_drew ?_))); (case side4 => exact (Kd.R_reads' HO416.out).2.1); (case side5 => repeat (first | exact (Kd.R_reads' HO419.out).2.2 | (with_reducible refine Kd.C_alloc ?_ _) | (with_reducible refine Kd.C_drewN ?_ _) | (with_reducible refine Kd.C_drew ?_))); (case side6 => exact (Kd.R_reads' HO419.out).2.1); rintro e w32 ⟨rfl, hb⟩; refine ⟨_, rfl, ?_⟩; have n0_ := Aside0.mk (Kd.R_below (by (with_reducible repeat (first | apply Kd.R_alloc | apply Kd.R_drewN | apply Kd.R_drew)); exact HO413.out) hb); have n1_ := Aside0.mk (Kd.R_below (by (with_reducible repeat (first | apply Kd.R_alloc | apply Kd.R_drewN | apply Kd.R_drew)); exact HO416.out) hb); have n2_ := Aside0.mk (Kd.R_below (by (with_reducible repeat (first | apply Kd.R_alloc | apply Kd.R_drewN | apply Kd.R_drew)); exact HO419.out) hb); have n3_ := Aside0.mk (blk_below (g := gb409) (o := .cells #[.slice A0_0 l0_0.length c0_0, .slice A0_1 l0_1.length c0_1] 35 (0, 0)) (by (with_reducible repeat (first | refine blk_drewN ?_ _ | refine blk_drew ?_ | refine blk_alloc ?_ _)); exact BK409.out) hb); have n4_ := Aside0.mk (below_step (by repeat (first | (with_reducible first | exact HB.out | apply below_alloc | apply pw_below_drewN | apply below_drew1 | refine below_set ?_ GE409.out) | exact HB.out)) hb); clear HO413; clear HO416; clear HO419; clear BK409; clear HB; have HO413 := n0_; have HO416 := n1_; have HO419 := n2_; have BK409 := n3_; have HB := n4_; clear n0_ n1_ n2_ n3_ n4_; (try clear hb); (try clear hb2); (try clear hk); (try clear hi); have hcz33_0 : w32.cell? ⟨gb409, 0, none⟩ = some (.slice A0_0 l0_0.length c0_0) := (blk_cell BK409.out 0).trans rfl; have hcz33_1 : w32.cell? ⟨gb409, 1, none⟩ = some (.slice A0_1 l0_1.length c0_1) := (blk_cell BK409.out 1).trans rfl; have hfz33_0 := blk_frozen BK409.out 0; have hfz33_1 := blk_frozen BK409.out 1) | ((with_reducible refine gate_callee (f := 19) rfl ?_); refine goesL_ (some 24) rfl rfl Tryd.func19 (by kernel_rfl) rfl #[.agg #[.slice A0_0 l0_0.length c0_0, .slice A0_1 l0_1.length c0_1]] rfl (by (try simp only [List.map_toArray, List.map_cons, List.map_nil]); first | done | rfl | (simp only [List.length_drop, List.length_take]; rfl)) ?_; (with_reducible refine (laws_toShape.calls k _ _ l0_0 _ _ l0_1 t421 t424 _ ?side1 ?side2 ?side3 ?side4 A13.out).mono ?_); (case side1 => repeat (first | exact (Kd.C_below HR0_0.out HB.out) | (with_reducible refine Kd.C_alloc ?_ _) | (with_reducible refine Kd.C_drewN ?_ _) | (with_reducible refine Kd.C_drew ?_))); (case side2 => exact HC0_0.out); (case side3 => repeat (first | exact (Kd.C_below HR0_1.out HB.out) | (with_reducible refine Kd.C_alloc ?_ _) | (with_reducible refine Kd.C_drewN ?_ _) | (with_reducible refine Kd.C_drew ?_))); (case side4 => exact HC0_1.out); rintro e w34 ⟨v422, v425, rfl, ho0, ho1, hb⟩; refine ⟨_, rfl, ?_⟩; have n0_ := Aside0.mk (Kd.R_mono (Kd.R_told (Kd.R_told (Kd.R_old (by (with_reducible repeat (first | apply Kd.R_alloc | apply Kd.R_drewN | apply Kd.R_drew)); exact HO413.out) hb) (Kd.R_base ho0)) (Kd.R_base ho1)) (fun _ h_ => h_.1)); have n1_ := Aside0.mk (Kd.R_mono (Kd.R_told (Kd.R_told (Kd.R_old (by (with_reducible repeat (first | apply Kd.R_alloc | apply Kd.R_drewN | apply Kd.R_drew)); exact HO416.out) hb) (Kd.R_base ho0)) (Kd.R_base ho1)) (fun _ h_ => h_.1)); have n2_ := Aside0.mk (Kd.R_mono (Kd.R_told (Kd.R_told (Kd.R_old (by (with_reducible repeat (first | apply Kd.R_alloc | apply Kd.R_drewN | apply Kd.R_drew)); exact HO419.out) hb) (Kd.R_base ho0)) (Kd.R_base ho1)) (fun _ h_ => h_.1)); have n3_ := Aside0.mk (Kd.R_lower (Kd.R_new' (Kd.R_new' (Kd.R_new' ho0 (Kd.R_lt (by (with_reducible repeat (first | apply Kd.R_alloc | apply Kd.R_drewN | apply Kd.R_drew)); exact HO413.out))) (Kd.R_lt (by (with_reducible repeat (first | apply Kd.R_alloc | apply Kd.R_drewN | apply Kd.R_drew)); exact HO416.out))) (Kd.R_lt (by (with_reducible repeat (first | apply Kd.R_alloc | apply Kd.R_drewN | apply Kd.R_drew)); exact HO419.out))) (below_size (by repeat (first | (with_reducible first | exact HB.out | apply below_alloc | apply pw_below_drewN | apply below_drew1 | refine below_set ?_ GE409.out) | exact HB.out)))); have n4_ := Aside0.mk (Kd.R_lower (Kd.R_new' (Kd.R_new' (Kd.R_new' ho1 (Kd.R_lt (by (with_reducible repeat (first | apply Kd.R_alloc | apply Kd.R_drewN | apply Kd.R_drew)); exact HO413.out))) (Kd.R_lt (by (with_reducible repeat (first | apply Kd.R_alloc | apply Kd.R_drewN | apply Kd.R_drew)); exact HO416.out))) (Kd.R_lt (by (with_reducible repeat (first | apply Kd.R_alloc | apply Kd.R_drewN | apply Kd.R_drew)); exact HO419.out))) (below_size (by repeat (first | (with_reducible first | exact HB.out | apply below_alloc | apply pw_below_drewN | apply below_drew1 | refine below_set ?_ GE409.out) | exact HB.out)))); have n5_ := Aside0.mk (blk_below (g := gb409) (o := .cells #[.slice A0_0 l0_0.length c0_0, .slice A0_1 l0_1.length c0_1] 35 (0, 0)) (by (with_reducible repeat (first | refine blk_drewN ?_ _ | refine blk_drew ?_ | refine blk_alloc ?_ _)); exact BK409.out) hb); have n6_ := Aside0.mk (below_step (by repeat (first | (with_reducible first | exact HB.out | apply below_alloc | apply pw_below_drewN | apply below_drew1 | refine below_set ?_ GE409.out) | exact HB.out)) hb); clear HO413; clear HO416; clear HO419; clear BK409; clear HB; have HO413 := n0_; have HO416 := n1_; have HO419 := n2_; have HO423 := n3_; have HO426 := n4_; have BK409 := n5_; have HB := n6_; clear n0_ n1_ n2_ n3_ n4_ n5_ n6_; (try clear hb); (try clear hb2); (try clear hk); (try clear hi); (try clear ho0); (try clear ho1)) | ((with_reducible refine gate_dst (N := 7) rfl ?_); refine box_event ?hg (N := 7) ?hd (cs := #[.slice none 0 0, .slice none 0 0]) (t := 38) ?hr ?_; (case hd => rfl); (case hg => rfl); (case hr => first | (go_simp; done) | (go_simp; rfl)); intro gb427 hg w35 hbox hb; have n0_ := Aside0.mk (Kd.R_below (by (with_reducible repeat (first | apply Kd.R_alloc | apply Kd.R_drewN | apply Kd.R_drew)); exact HO413.out) hb); have n1_ := Aside0.mk (Kd.R_below (by (with_reducible repeat (first | apply Kd.R_alloc | apply Kd.R_drewN | apply Kd.R_drew)); exact HO416.out) hb); have n2_ := Aside0.mk (Kd.R_below (by (with_reducible repeat (first | apply Kd.R_alloc | apply Kd.R_drewN | apply Kd.R_drew)); exact HO419.out) hb); have n3_ := Aside0.mk (Kd.R_below (by (with_reducible repeat (first | apply Kd.R_alloc | apply Kd.R_drewN | apply Kd.R_drew)); exact HO423.out) hb); have n4_ := Aside0.mk (Kd.R_below (by (with_reducible repeat (first | apply Kd.R_alloc | apply Kd.R_drewN | apply Kd.R_drew)); exact HO426.out) hb); have n5_ := Aside0.mk (blk_below (g := gb409) (o := .cells #[.slice A0_0 l0_0.length c0_0, .slice A0_1 l0_1.length c0_1] 35 (0, 0)) (by (with_reducible repeat (first | refine blk_drewN ?_ _ | refine blk_drew ?_ | refine blk_alloc ?_ _)); exact BK409.out) hb); have n6_ := Aside0.mk (below_step (by repeat (first | (with_reducible first | exact HB.out | apply below_alloc | apply pw_below_drewN | apply below_drew1 | refine below_set ?_ GE409.out) | exact HB.out)) hb); have n7_ := Aside0.mk (hbox); have n8_ := Aside0.mk ((by rw [hg]; exact (below_size (by repeat (first | (with_reducible first | exact HB.out | apply below_alloc | apply pw_below_drewN | apply below_drew1 | refine below_set ?_ GE409.out) | exact HB.out))) : w.heap.size ≤ gb427)); have n9_ := Aside0.mk ((by rw [hg]; exact (below_size (by repeat (first | (with_reducible first | exact HB.out | apply below_alloc | apply pw_below_drewN | apply below_drew1 | refine below_set ?_ GE409.out) | exact HB.out))) : w.heap.size ≤ gb427)); have n10_ := Aside0.mk ((by rw [hg]; exact Nat.ne_of_lt (blk_lt (g := gb409) (o := .cells #[.slice A0_0 l0_0.length c0_0, .slice A0_1 l0_1.length c0_1] 35 (0, 0)) (by (with_reducible repeat (first | refine blk_drewN ?_ _ | refine blk_drew ?_ | refine blk_alloc ?_ _)); exact BK409.out)) : gb409 ≠ gb427)); have n11_ := Aside0.mk ((by rw [hg]; exact Nat.ne_of_gt (blk_lt (g := gb409) (o := .cells #[.slice A0_0 l0_0.length c0_0, .slice A0_1 l0_1.length c0_1] 35 (0, 0)) (by (with_reducible repeat (first | refine blk_drewN ?_ _ | refine blk_drew ?_ | refine blk_alloc ?_ _)); exact BK409.out)) : gb427 ≠ gb409)); clear HO413; clear HO416; clear HO419; clear HO423; clear HO426; clear BK409; clear HB; have HO413 := n0_; have HO416 := n1_; have HO419 := n2_; have HO423 := n3_; have HO426 := n4_; have BK409 := n5_; have HB := n6_; have BK427 := n7_; have GW427 := n8_; have GE427 := n9_; have NB409_427 := n10_; have NB427_409 := n11_; clear n0_ n1_ n2_ n3_ n4_ n5_ n6_ n7_ n8_ n9_ n10_ n11_; clear hb hbox hg; obtain ⟨Ao36, co36, eo36⟩ := Kd.R_slice HO423.out; subst eo36; have hnb37 := NB427_409.out; have hnc37 := NB409_427.out; have hcz38_0 : w35.cell? ⟨gb427, 0, none⟩ = some (.slice none 0 0) := (blk_cell BK427.out 0).trans rfl; have hcz38_1 : w35.cell? ⟨gb427, 1, none⟩ = some (.slice none 0 0) := (blk_cell BK427.out 1).trans rfl; have hfz38_0 := blk_frozen BK427.out 0; have hfz38_1 := blk_frozen BK427.out 1; obtain ⟨Ao39, co39, eo39⟩ := Kd.R_slice HO426.out; subst eo39) | ((with_reducible refine gate_callee (f := 8) rfl ?_); refine goesL_ (some 26) rfl rfl Tryd.func8 (by kernel_rfl) rfl #[.slice A1 l1.length c1] rfl (by (try simp only [List.map_toArray, List.map_cons, List.map_nil]); first | done | rfl | (simp only [List.length_drop, List.length_take]; rfl)) ?_; (with_reducible refine (laws_toIntS.calls k _ _ l1 t428 _ ?side1 ?side2 A14.out).mono ?_); (case side1 => exact Kd.C_below HR1.out (by repeat (first | (with_reducible first | exact HB.out | apply below_alloc | apply pw_below_drewN | apply below_drew1 | refine below_set ?_ GE409.out | refine below_set ?_ GE427.out) | exact HB.out))); (case side2 => exact HC1.out); rintro e w40 ⟨v429, rfl, ho0, hb⟩; refine ⟨_, rfl, ?_⟩; have n0_ := Aside0.mk (Kd.R_elder' (by (with_reducible repeat (first | apply Kd.R_alloc | apply Kd.R_drewN | apply Kd.R_drew)); exact (Kd.R_mono (Kd.R_far (p := ⟨gb427, 1, none⟩) (Kd.R_far (p := ⟨gb427, 0, none⟩) (Kd.R_types HO413.out BK427.out (by decide)) (fun _ hk => hk.2) (.slice Ao36 t421.length co36)) (fun _ hk => hk.2) (.slice Ao39 t424.length co39)) (fun _ h_ => h_.1))) (Kd.R_base ho0) hb); have n1_ := Aside0.mk (Kd.R_elder' (by (with_reducible repeat (first | apply Kd.R_alloc | apply Kd.R_drewN | apply Kd.R_drew)); exact (Kd.R_mono (Kd.R_far (p := ⟨gb427, 1, none⟩) (Kd.R_far (p := ⟨gb427, 0, none⟩) (Kd.R_types HO416.out BK427.out (by decide)) (fun _ hk => hk.2) (.slice Ao36 t421.length co36)) (fun _ hk => hk.2) (.slice Ao39 t424.length co39)) (fun _ h_ => h_.1))) (Kd.R_base ho0) hb); have n2_ := Aside0.mk (Kd.R_elder' (by (with_reducible repeat (first | apply Kd.R_alloc | apply Kd.R_drewN | apply Kd.R_drew)); exact (Kd.R_mono (Kd.R_far (p := ⟨gb427, 1, none⟩) (Kd.R_far (p := ⟨gb427, 0, none⟩) (Kd.R_types HO419.out BK427.out (by decide)) (fun _ hk => hk.2) (.slice Ao36 t421.length co36)) (fun _ hk => hk.2) (.slice Ao39 t424.length co39)) (fun _ h_ => h_.1))) (Kd.R_base ho0) hb); have n3_ := Aside0.mk (Kd.R_elder' (by (with_reducible repeat (first | apply Kd.R_alloc | apply Kd.R_drewN | apply Kd.R_drew)); exact (Kd.R_mono (Kd.R_far (p := ⟨gb427, 1, none⟩) (Kd.R_far (p := ⟨gb427, 0, none⟩) (Kd.R_types HO423.out BK427.out (by decide)) (fun _ hk => hk.2) (.slice Ao36 t421.length co36)) (fun _ hk => hk.2) (.slice Ao39 t424.length co39)) (fun _ h_ => h_.1))) (Kd.R_base ho0) hb); have n4_ := Aside0.mk (Kd.R_elder' (by (with_reducible repeat (first | apply Kd.R_alloc | apply Kd.R_drewN | apply Kd.R_drew)); exact (Kd.R_mono (Kd.R_far (p := ⟨gb427, 1, none⟩) (Kd.R_far (p := ⟨gb427, 0, none⟩) (Kd.R_types HO426.out BK427.out (by decide)) (fun _ hk => hk.2) (.slice Ao36 t421.length co36)) (fun _ hk => hk.2) (.slice Ao39 t424.length co39)) (fun _ h_ => h_.1))) (Kd.R_base ho0) hb); have n5_ := Aside0.mk (Kd.R_lower (Kd.R_new' (Kd.R_new' (Kd.R_new' (Kd.R_new' (Kd.R_new' ho0 (Kd.R_lt (by (with_reducible repeat (first | apply Kd.R_alloc | apply Kd.R_drewN | apply Kd.R_drew)); exact (Kd.R_mono (Kd.R_far (p := ⟨gb427, 1, none⟩) (Kd.R_far (p := ⟨gb427, 0, none⟩) (Kd.R_types HO413.out BK427.out (by decide)) (fun _ hk => hk.2) (.slice Ao36 t421.length co36)) (fun _ hk => hk.2) (.slice Ao39 t424.length co39)) (fun _ h_ => h_.1))))) (Kd.R_lt (by (with_reducible repeat (first | apply Kd.R_alloc | apply Kd.R_drewN | apply Kd.R_drew)); exact (Kd.R_mono (Kd.R_far (p := ⟨gb427, 1, none⟩) (Kd.R_far (p := ⟨gb427, 0, none⟩) (Kd.R_types HO416.out BK427.out (by decide)) (fun _ hk => hk.2) (.slice Ao36 t421.length co36)) (fun _ hk => hk.2) (.slice Ao39 t424.length co39)) (fun _ h_ => h_.1))))) (Kd.R_lt (by (with_reducible repeat (first | apply Kd.R_alloc | apply Kd.R_drewN | apply Kd.R_drew)); exact (Kd.R_mono (Kd.R_far (p := ⟨gb427, 1, none⟩) (Kd.R_far (p := ⟨gb427, 0, none⟩) (Kd.R_types HO419.out BK427.out (by decide)) (fun _ hk => hk.2) (.slice Ao36 t421.length co36)) (fun _ hk => hk.2) (.slice Ao39 t424.length co39)) (fun _ h_ => h_.1))))) (Kd.R_lt (by (with_reducible repeat (first | apply Kd.R_alloc | apply Kd.R_drewN | apply Kd.R_drew)); exact (Kd.R_mono (Kd.R_far (p := ⟨gb427, 1, none⟩) (Kd.R_far (p := ⟨gb427, 0, none⟩) (Kd.R_types HO423.out BK427.out (by decide)) (fun _ hk => hk.2) (.slice Ao36 t421.length co36)) (fun _ hk => hk.2) (.slice Ao39 t424.length co39)) (fun _ h_ => h_.1))))) (Kd.R_lt (by (with_reducible repeat (first | apply Kd.R_alloc | apply Kd.R_drewN | apply Kd.R_drew)); exact (Kd.R_mono (Kd.R_far (p := ⟨gb427, 1, none⟩) (Kd.R_far (p := ⟨gb427, 0, none⟩) (Kd.R_types HO426.out BK427.out (by decide)) (fun _ hk => hk.2) (.slice Ao36 t421.length co36)) (fun _ hk => hk.2) (.slice Ao39 t424.length co39)) (fun _ h_ => h_.1))))) (below_size (by repeat (first | (with_reducible first | exact HB.out | apply below_alloc | apply pw_below_drewN | apply below_drew1 | refine below_set ?_ GE409.out | refine below_set ?_ GE427.out) | exact HB.out)))); have n6_ := Aside0.mk (blk_below (g := gb409) (o := .cells #[.slice A0_0 l0_0.length c0_0, .slice A0_1 l0_1.length c0_1] 35 (0, 0)) (by (with_reducible repeat (first | refine blk_drewN ?_ _ | refine blk_drew ?_ | refine blk_alloc ?_ _)); refine blk_far ?_ NB409_427.out _; (with_reducible repeat (first | refine blk_drewN ?_ _ | refine blk_drew ?_ | refine blk_alloc ?_ _)); refine blk_far ?_ NB409_427.out _; (with_reducible repeat (first | refine blk_drewN ?_ _ | refine blk_drew ?_ | refine blk_alloc ?_ _)); exact BK409.out) hb); have n7_ := Aside0.mk (blk_below (g := gb427) (o := .cells #[.slice Ao36 t421.length co36, .slice Ao39 t424.length co39] 38 (0, 0)) (by (with_reducible repeat (first | refine blk_drewN ?_ _ | refine blk_drew ?_ | refine blk_alloc ?_ _)); refine blk_put (cs := #[.slice Ao36 t421.length co36, .slice none 0 0]) ?_ 1 _ rfl; (with_reducible repeat (first | refine blk_drewN ?_ _ | refine blk_drew ?_ | refine blk_alloc ?_ _)); refine blk_put (cs := #[.slice none 0 0, .slice none 0 0]) ?_ 0 _ rfl; (with_reducible repeat (first | refine blk_drewN ?_ _ | refine blk_drew ?_ | refine blk_alloc ?_ _)); exact BK427.out) hb); have n8_ := Aside0.mk (below_step (by repeat (first | (with_reducible first | exact HB.out | apply below_alloc | apply pw_below_drewN | apply below_drew1 | refine below_set ?_ GE409.out | refine below_set ?_ GE427.out) | exact HB.out)) hb); clear HO413; clear HO416; clear HO419; clear HO423; clear HO426; clear BK409; clear BK427; clear HB; have HO413 := n0_; have HO416 := n1_; have HO419 := n2_; have HO423 := n3_; have HO426 := n4_; have HO430 := n5_; have BK409 := n6_; have BK427 := n7_; have HB := n8_; clear n0_ n1_ n2_ n3_ n4_ n5_ n6_ n7_ n8_; (try clear hb); (try clear hb2); (try clear hk); (try clear hi); (try clear ho0); have hcz41_0 : w40.cell? ⟨gb427, 0, none⟩ = some (.slice Ao36 t421.length co36) := (blk_cell BK427.out 0).trans rfl; have hcz41_1 : w40.cell? ⟨gb427, 1, none⟩ = some (.slice Ao39 t424.length co39) := (blk_cell BK427.out 1).trans rfl; have hfz41_0 := blk_frozen BK427.out 0; have hfz41_1 := blk_frozen BK427.out 1; obtain ⟨Ao42, co42, eo42⟩ := Kd.R_slice HO430.out; subst eo42) | ((with_reducible refine gate_callee (f := 23) rfl ?_); refine goesL_ (some 29) rfl rfl Tryd.func23 (by kernel_rfl) rfl #[.agg #[.slice Ao36 t421.length co36, .slice Ao39 t424.length co39], .slice Ao42 t428.length co42] rfl (by (try simp only [List.map_toArray, List.map_cons, List.map_nil]); first | done | rfl | (simp only [List.length_drop, List.length_take]; rfl)) ?_; (with_reducible refine (impl_KostkaNumber.calls k _ _ t421 _ _ t424 _ _ t428 t431 _ ?side1 ?side2 ?side3 ?side4 ?side5 ?side6 A15.out).mono ?_); (case side1 => repeat (first | exact (Kd.R_reads' HO423.out).2.2 | (with_reducible refine Kd.C_alloc ?_ _) | (with_reducible refine Kd.C_drewN ?_ _) | (with_reducible refine Kd.C_drew ?_))); (case side2 => exact (Kd.R_reads' HO423.out).2.1); (case side3 => repeat (first | exact (Kd.R_reads' HO426.out).2.2 | (with_reducible refine Kd.C_alloc ?_ _) | (with_reducible refine Kd.C_drewN ?_ _) | (with_reducible refine Kd.C_drew ?_))); (case side4 => exact (Kd.R_reads' HO426.out).2.1); (case side5 => repeat (first | exact (Kd.R_reads' HO430.out).2.2 | (with_reducible refine Kd.C_alloc ?_ _) | (with_reducible refine Kd.C_drewN ?_ _) | (with_reducible refine Kd.C_drew ?_))); (case side6 => exact (Kd.R_reads' HO430.out).2.1); rintro e w43 ⟨rfl, hb⟩; refine ⟨_, rfl, ?_⟩; have n0_ := Aside0.mk (Kd.R_below (by (with_reducible repeat (first | apply Kd.R_alloc | apply Kd.R_drewN | apply Kd.R_drew)); exact HO413.out) hb); have n1_ := Aside0.mk (Kd.R_below (by (with_reducible repeat (first | apply Kd.R_alloc | apply Kd.R_drewN | apply Kd.R_drew)); exact HO416.out) hb); have n2_ := Aside0.mk (Kd.R_below (by (with_reducible repeat (first | apply Kd.R_alloc | apply Kd.R_drewN | apply Kd.R_drew)); exact HO419.out) hb); have n3_ := Aside0.mk (Kd.R_below (by (with_reducible repeat (first | apply Kd.R_alloc | apply Kd.R_drewN | apply Kd.R_drew)); exact HO423.out) hb); have n4_ := Aside0.mk (Kd.R_below (by (with_reducible repeat (first | apply Kd.R_alloc | apply Kd.R_drewN | apply Kd.R_drew)); exact HO426.out) hb); have n5_ := Aside0.mk (Kd.R_below (by (with_reducible repeat (first | apply Kd.R_alloc | apply Kd.R_drewN | apply Kd.R_drew)); exact HO430.out) hb); have n6_ := Aside0.mk (blk_below (g := gb409) (o := .cells #[.slice A0_0 l0_0.length c0_0, .slice A0_1 l0_1.length c0_1] 35 (0, 0)) (by (with_reducible repeat (first | refine blk_drewN ?_ _ | refine blk_drew ?_ | refine blk_alloc ?_ _)); exact BK409.out) hb); have n7_ := Aside0.mk (blk_below (g := gb427) (o := .cells #[.slice Ao36 t421.length co36, .slice Ao39 t424.length co39] 38 (0, 0)) (by (with_reducible repeat (first | refine blk_drewN ?_ _ | refine blk_drew ?_ | refine blk_alloc ?_ _)); exact BK427.out) hb); have n8_ := Aside0.mk (below_step (by repeat (first | (with_reducible first | exact HB.out | apply below_alloc | apply pw_below_drewN | apply below_drew1 | refine below_set ?_ GE409.out | refine below_set ?_ GE427.out) | exact HB.out)) hb); clear HO413; clear HO416; clear HO419; clear HO423; clear HO426; clear HO430; clear BK409; clear BK427; clear HB; have HO413 := n0_; have HO416 := n1_; have HO419 := n2_; have HO423 := n3_; have HO426 := n4_; have HO430 := n5_; have BK409 := n6_; have BK427 := n7_; have HB := n8_; clear n0_ n1_ n2_ n3_ n4_ n5_ n6_ n7_ n8_; (try clear hb); (try clear hb2); (try clear hk); (try clear hi)))
      have n0_ := Aside0.mk (Kd.R_drew HO413.out)
      have n1_ := Aside0.mk (Kd.R_drew HO416.out)
      have n2_ := Aside0.mk (Kd.R_drew HO419.out)
      have n3_ := Aside0.mk (Kd.R_drew HO423.out)
      have n4_ := Aside0.mk (Kd.R_drew HO426.out)
      have n5_ := Aside0.mk (Kd.R_drew HO430.out)
      have n6_ := Aside0.mk (blk_drew BK409.out)
      have n7_ := Aside0.mk (blk_drew BK427.out)
      have n8_ := Aside0.mk (below_drew1 HB.out)
      clear HO413
      clear HO416
      clear HO419
      clear HO423
      clear HO426
      clear HO430
      clear BK409
      clear BK427
      clear HB
      have HO413 := n0_
      have HO416 := n1_
      have HO419 := n2_
      have HO423 := n3_
      have HO426 := n4_
      have HO430 := n5_
      have BK409 := n6_
      have BK427 := n7_
      have HB := n8_
      clear n0_ n1_ n2_ n3_ n4_ n5_ n6_ n7_ n8_
      refine start_ (n := 5) (S := fun w' => w'.cell? ⟨gb427, 0, none⟩ = some (.slice Ao36 t421.length co36) ∧ w'.cell? ⟨gb427, 1, none⟩ = some (.slice Ao39 t424.length co39) ∧ w'.cell? ⟨gb409, 0, none⟩ = some (.slice A0_0 l0_0.length c0_0) ∧ w'.cell? ⟨gb409, 1, none⟩ = some (.slice A0_1 l0_1.length c0_1)) (ds := []) #[false, false, false, false, false] (by kernel_rfl) rfl rfl ⟨(blk_cell BK427.out 0).trans rfl, (blk_cell BK427.out 1).trans rfl, (blk_cell BK409.out 0).trans rfl, (blk_cell BK409.out 1).trans rfl⟩ (fun hHeld => ?_)
      generalize w43.drew = w44 at HO413 HO416 HO419 HO423 HO426 HO430 BK409 BK427 HB hHeld ⊢
      refine take_ (i := 0) (N := some 33) (v := ?_) (a' := ?_) #[true, false, false, false, false] rfl rfl (by kernel_rfl) (fun _ _ _ h => h) (Or.inl ⟨by rfl, ?_⟩) hHeld ?_ ?_
      rotate_left
      ·
       rintro w' ⟨s0, s1, s2, s3⟩
       go_simp
       with_reducible rfl
      rotate_left
      ·
       simp only [Act.put, List.setIfInBounds_toArray, List.set_cons_zero, List.set_cons_succ, i64_w, i32_w]
       rfl
      refine take_ (i := 1) (N := some 34) (v := ?_) (a' := ?_) #[true, true, false, false, false] rfl rfl (by kernel_rfl) (fun _ _ _ h => h) (Or.inl ⟨by rfl, ?_⟩) hHeld ?_ ?_
      rotate_left
      ·
       rintro w' ⟨s0, s1, s2, s3⟩
       go_simp
       with_reducible rfl
      rotate_left
      ·
       simp only [Act.put, List.setIfInBounds_toArray, List.set_cons_zero, List.set_cons_succ, i64_w, i32_w]
       rfl
      refine one_ (i := 2) (N := some 35) #[true, true, true, false, false] rfl rfl (by kernel_rfl) (by decide) (fun K hK => ?_)
      refine goes_ Tryd.func19 (by kernel_rfl) rfl #[.agg #[.slice A0_0 l0_0.length c0_0, .slice A0_1 l0_1.length c0_1]] (by rfl) rfl rfl (by (try simp only [List.map_toArray, List.map_cons, List.map_nil]); first | done | rfl | (simp only [List.length_drop, List.length_take]; rfl)) ?_
      with_reducible refine (laws_toShape.calls k _ _ l0_0 _ _ l0_1 t432 t435 _ ?side1 ?side2 ?side3 ?side4 A17.out).mono ?_
      (case side1 => repeat (first | exact (Kd.C_below HR0_0.out HB.out) | (with_reducible refine Kd.C_alloc ?_ _) | (with_reducible refine Kd.C_drewN ?_ _) | (with_reducible refine Kd.C_drew ?_)))
      (case side2 => exact HC0_0.out)
      (case side3 => repeat (first | exact (Kd.C_below HR0_1.out HB.out) | (with_reducible refine Kd.C_alloc ?_ _) | (with_reducible refine Kd.C_drewN ?_ _) | (with_reducible refine Kd.C_drew ?_)))
      (case side4 => exact HC0_1.out)
      rintro e w45 ⟨v433, v436, rfl, ho0, ho1, hb⟩
      refine ⟨_, rfl, ?_⟩
      have n0_ := Aside0.mk (Kd.R_mono (Kd.R_told (Kd.R_told (Kd.R_old (by (with_reducible repeat (first | apply Kd.R_alloc | apply Kd.R_drewN | apply Kd.R_drew)); exact HO413.out) hb) (Kd.R_base ho0)) (Kd.R_base ho1)) (fun _ h_ => h_.1))
      have n1_ := Aside0.mk (Kd.R_mono (Kd.R_told (Kd.R_told (Kd.R_old (by (with_reducible repeat (first | apply Kd.R_alloc | apply Kd.R_drewN | apply Kd.R_drew)); exact HO416.out) hb) (Kd.R_base ho0)) (Kd.R_base ho1)) (fun _ h_ => h_.1))
      have n2_ := Aside0.mk (Kd.R_mono (Kd.R_told (Kd.R_told (Kd.R_old (by (with_reducible repeat (first | apply Kd.R_alloc | apply Kd.R_drewN | apply Kd.R_drew)); exact HO419.out) hb) (Kd.R_base ho0)) (Kd.R_base ho1)) (fun _ h_ => h_.1))
      have n3_ := Aside0.mk (Kd.R_mono (Kd.R_told (Kd.R_told (Kd.R_old (by (with_reducible repeat (first | apply Kd.R_alloc | apply Kd.R_drewN | apply Kd.R_drew)); exact HO423.out) hb) (Kd.R_base ho0)) (Kd.R_base ho1)) (fun _ h_ => h_.1))
      have n4_ := Aside0.mk (Kd.R_mono (Kd.R_told (Kd.R_told (Kd.R_old (by (with_reducible repeat (first | apply Kd.R_alloc | apply Kd.R_drewN | apply Kd.R_drew)); exact HO426.out) hb) (Kd.R_base ho0)) (Kd.R_base ho1)) (fun _ h_ => h_.1))
      have n5_ := Aside0.mk (Kd.R_mono (Kd.R_told (Kd.R_told (Kd.R_old (by (with_reducible repeat (first | apply Kd.R_alloc | apply Kd.R_drewN | apply Kd.R_drew)); exact HO430.out) hb) (Kd.R_base ho0)) (Kd.R_base ho1)) (fun _ h_ => h_.1))
      have n6_ := Aside0.mk (Kd.R_lower (Kd.R_new' (Kd.R_new' (Kd.R_new' (Kd.R_new' (Kd.R_new' (Kd.R_new' ho0 (Kd.R_lt (by (with_reducible repeat (first | apply Kd.R_alloc | apply Kd.R_drewN | apply Kd.R_drew)); exact HO413.out))) (Kd.R_lt (by (with_reducible repeat (first | apply Kd.R_alloc | apply Kd.R_drewN | apply Kd.R_drew)); exact HO416.out))) (Kd.R_lt (by (with_reducible repeat (first | apply Kd.R_alloc | apply Kd.R_drewN | apply Kd.R_drew)); exact HO419.out))) (Kd.R_lt (by (with_reducible repeat (first | apply Kd.R_alloc | apply Kd.R_drewN | apply Kd.R_drew)); exact HO423.out))) (Kd.R_lt (by (with_reducible repeat (first | apply Kd.R_alloc | apply Kd.R_drewN | apply Kd.R_drew)); exact HO426.out))) (Kd.R_lt (by (with_reducible repeat (first | apply Kd.R_alloc | apply Kd.R_drewN | apply Kd.R_drew)); exact HO430.out))) (below_size (by repeat (first | (with_reducible first | exact HB.out | apply below_alloc | apply pw_below_drewN | apply below_drew1 | refine below_set ?_ GE409.out | refine below_set ?_ GE427.out) | exact HB.out))))
      have n7_ := Aside0.mk (Kd.R_lower (Kd.R_new' (Kd.R_new' (Kd.R_new' (Kd.R_new' (Kd.R_new' (Kd.R_new' ho1 (Kd.R_lt (by (with_reducible repeat (first | apply Kd.R_alloc | apply Kd.R_drewN | apply Kd.R_drew)); exact HO413.out))) (Kd.R_lt (by (with_reducible repeat (first | apply Kd.R_alloc | apply Kd.R_drewN | apply Kd.R_drew)); exact HO416.out))) (Kd.R_lt (by (with_reducible repeat (first | apply Kd.R_alloc | apply Kd.R_drewN | apply Kd.R_drew)); exact HO419.out))) (Kd.R_lt (by (with_reducible repeat (first | apply Kd.R_alloc | apply Kd.R_drewN | apply Kd.R_drew)); exact HO423.out))) (Kd.R_lt (by (with_reducible repeat (first | apply Kd.R_alloc | apply Kd.R_drewN | apply Kd.R_drew)); exact HO426.out))) (Kd.R_lt (by (with_reducible repeat (first | apply Kd.R_alloc | apply Kd.R_drewN | apply Kd.R_drew)); exact HO430.out))) (below_size (by repeat (first | (with_reducible first | exact HB.out | apply below_alloc | apply pw_below_drewN | apply below_drew1 | refine below_set ?_ GE409.out | refine below_set ?_ GE427.out) | exact HB.out))))
      have n8_ := Aside0.mk (blk_below (g := gb409) (o := .cells #[.slice A0_0 l0_0.length c0_0, .slice A0_1 l0_1.length c0_1] 35 (0, 0)) (by (with_reducible repeat (first | refine blk_drewN ?_ _ | refine blk_drew ?_ | refine blk_alloc ?_ _)); exact BK409.out) hb)
      have n9_ := Aside0.mk (blk_below (g := gb427) (o := .cells #[.slice Ao36 t421.length co36, .slice Ao39 t424.length co39] 38 (0, 0)) (by (with_reducible repeat (first | refine blk_drewN ?_ _ | refine blk_drew ?_ | refine blk_alloc ?_ _)); exact BK427.out) hb)
      have n10_ := Aside0.mk (below_step (by repeat (first | (with_reducible first | exact HB.out | apply below_alloc | apply pw_below_drewN | apply below_drew1 | refine below_set ?_ GE409.out | refine below_set ?_ GE427.out) | exact HB.out)) hb)
      clear HO413
      clear HO416
      clear HO419
      clear HO423
      clear HO426
      clear HO430
      clear BK409
      clear BK427
      clear HB
      have HO413 := n0_
      have HO416 := n1_
      have HO419 := n2_
      have HO423 := n3_
      have HO426 := n4_
      have HO430 := n5_
      have HO434 := n6_
      have HO437 := n7_
      have BK409 := n8_
      have BK427 := n9_
      have HB := n10_
      clear n0_ n1_ n2_ n3_ n4_ n5_ n6_ n7_ n8_ n9_ n10_
      (try clear hb)
      (try clear hb2)
      (try clear hk)
      (try clear hi)
      (try clear ho0)
      (try clear ho1)
      obtain ⟨Ao46, co46, eo46⟩ := Kd.R_slice HO434.out
      (first | subst eo46 | (injection eo46 with f1_ f2_ f3_; have f4_ := f1_.symm; have f5_ := f3_.symm; clear f1_ f2_ f3_; subst f4_; subst f5_))
      obtain ⟨Ao47, co47, eo47⟩ := Kd.R_slice HO437.out
      (first | subst eo47 | (injection eo47 with f1_ f2_ f3_; have f4_ := f1_.symm; have f5_ := f3_.symm; clear f1_ f2_ f3_; subst f4_; subst f5_))
      refine hK.out _ _ ⟨(blk_cell BK427.out 0).trans rfl, (blk_cell BK427.out 1).trans rfl, (blk_cell BK409.out 0).trans rfl, (blk_cell BK409.out 1).trans rfl⟩ (fun hHeld => ?_)
      clear hK K
      refine norm_ (a' := ?_) ?_ ?_
      rotate_left
      ·
       show Act.put _ (some 35) _ = _
       simp only [Act.put, List.setIfInBounds_toArray, List.set_cons_zero, List.set_cons_succ, i64_w, i32_w]
       rfl
      refine one_ (i := 3) (N := some 36) #[true, true, true, true, false] rfl rfl (by kernel_rfl) (by decide) (fun K hK => ?_)
      refine goes_ Tryd.func21 (by kernel_rfl) rfl #[.agg #[.slice Ao36 t421.length co36, .slice Ao39 t424.length co39], .agg #[.slice Ao46 t432.length co46, .slice Ao47 t435.length co47]] (by rfl) rfl rfl (by (try simp only [List.map_toArray, List.map_cons, List.map_nil]); first | done | rfl | (simp only [List.length_drop, List.length_take]; rfl)) ?_
      with_reducible refine (laws_eqShape.calls k _ _ t421 _ _ t424 _ _ t432 _ _ t435 true _ ?side1 ?side2 ?side3 ?side4 ?side5 ?side6 ?side7 ?side8 A18.out).mono ?_
      (case side1 => repeat (first | exact (Kd.R_reads' HO423.out).2.2 | (with_reducible refine Kd.C_alloc ?_ _) | (with_reducible refine Kd.C_drewN ?_ _) | (with_reducible refine Kd.C_drew ?_)))
      (case side2 => exact (Kd.R_reads' HO423.out).2.1)
      (case side3 => repeat (first | exact (Kd.R_reads' HO426.out).2.2 | (with_reducible refine Kd.C_alloc ?_ _) | (with_reducible refine Kd.C_drewN ?_ _) | (with_reducible refine Kd.C_drew ?_)))
      (case side4 => exact (Kd.R_reads' HO426.out).2.1)
      (case side5 => repeat (first | exact (Kd.R_reads' HO434.out).2.2 | (with_reducible refine Kd.C_alloc ?_ _) | (with_reducible refine Kd.C_drewN ?_ _) | (with_reducible refine Kd.C_drew ?_)))
      (case side6 => exact (Kd.R_reads' HO434.out).2.1)
      (case side7 => repeat (first | exact (Kd.R_reads' HO437.out).2.2 | (with_reducible refine Kd.C_alloc ?_ _) | (with_reducible refine Kd.C_drewN ?_ _) | (with_reducible refine Kd.C_drew ?_)))
      (case side8 => exact (Kd.R_reads' HO437.out).2.1)
      rintro e w48 ⟨rfl, hb⟩
      refine ⟨_, rfl, ?_⟩
      have n0_ := Aside0.mk (Kd.R_below (by (with_reducible repeat (first | apply Kd.R_alloc | apply Kd.R_drewN | apply Kd.R_drew)); exact HO413.out) hb)
      have n1_ := Aside0.mk (Kd.R_below (by (with_reducible repeat (first | apply Kd.R_alloc | apply Kd.R_drewN | apply Kd.R_drew)); exact HO416.out) hb)
      have n2_ := Aside0.mk (Kd.R_below (by (with_reducible repeat (first | apply Kd.R_alloc | apply Kd.R_drewN | apply Kd.R_drew)); exact HO419.out) hb)
      have n3_ := Aside0.mk (Kd.R_below (by (with_reducible repeat (first | apply Kd.R_alloc | apply Kd.R_drewN | apply Kd.R_drew)); exact HO423.out) hb)
      have n4_ := Aside0.mk (Kd.R_below (by (with_reducible repeat (first | apply Kd.R_alloc | apply Kd.R_drewN | apply Kd.R_drew)); exact HO426.out) hb)
      have n5_ := Aside0.mk (Kd.R_below (by (with_reducible repeat (first | apply Kd.R_alloc | apply Kd.R_drewN | apply Kd.R_drew)); exact HO430.out) hb)
      have n6_ := Aside0.mk (Kd.R_below (by (with_reducible repeat (first | apply Kd.R_alloc | apply Kd.R_drewN | apply Kd.R_drew)); exact HO434.out) hb)
      have n7_ := Aside0.mk (Kd.R_below (by (with_reducible repeat (first | apply Kd.R_alloc | apply Kd.R_drewN | apply Kd.R_drew)); exact HO437.out) hb)
      have n8_ := Aside0.mk (blk_below (g := gb409) (o := .cells #[.slice A0_0 l0_0.length c0_0, .slice A0_1 l0_1.length c0_1] 35 (0, 0)) (by (with_reducible repeat (first | refine blk_drewN ?_ _ | refine blk_drew ?_ | refine blk_alloc ?_ _)); exact BK409.out) hb)
      have n9_ := Aside0.mk (blk_below (g := gb427) (o := .cells #[.slice Ao36 t421.length co36, .slice Ao39 t424.length co39] 38 (0, 0)) (by (with_reducible repeat (first | refine blk_drewN ?_ _ | refine blk_drew ?_ | refine blk_alloc ?_ _)); exact BK427.out) hb)
      have n10_ := Aside0.mk (below_step (by repeat (first | (with_reducible first | exact HB.out | apply below_alloc | apply pw_below_drewN | apply below_drew1 | refine below_set ?_ GE409.out | refine below_set ?_ GE427.out) | exact HB.out)) hb)
      clear HO413
      clear HO416
      clear HO419
      clear HO423
      clear HO426
      clear HO430
      clear HO434
      clear HO437
      clear BK409
      clear BK427
      clear HB
      have HO413 := n0_
      have HO416 := n1_
      have HO419 := n2_
      have HO423 := n3_
      have HO426 := n4_
      have HO430 := n5_
      have HO434 := n6_
      have HO437 := n7_
      have BK409 := n8_
      have BK427 := n9_
      have HB := n10_
      clear n0_ n1_ n2_ n3_ n4_ n5_ n6_ n7_ n8_ n9_ n10_
      (try clear hb)
      (try clear hb2)
      (try clear hk)
      (try clear hi)
      refine hK.out _ _ ⟨(blk_cell BK427.out 0).trans rfl, (blk_cell BK427.out 1).trans rfl, (blk_cell BK409.out 0).trans rfl, (blk_cell BK409.out 1).trans rfl⟩ (fun hHeld => ?_)
      clear hK K
      refine norm_ (a' := ?_) ?_ ?_
      rotate_left
      ·
       show Act.put _ (some 36) _ = _
       simp only [Act.put, List.setIfInBounds_toArray, List.set_cons_zero, List.set_cons_succ, i64_w, i32_w]
       rfl
      refine pure_ (i := 4) (N := some 37) (v := ?_) (a' := ?_) #[true, true, true, true, true] rfl rfl (by kernel_rfl) (fun _ _ _ h => h) (Or.inl ⟨by rfl, ?_⟩) ?_ ?_
      rotate_left
      ·
       intro w'
       go_simp
       with_reducible rfl
      rotate_left
      ·
       simp only [Act.put, List.setIfInBounds_toArray, List.set_cons_zero, List.set_cons_succ, i64_w, i32_w]
       rfl
      refine done_ (by kernel_rfl) ?_
      try go_wp2_with (first | ((with_reducible refine gate_callee (f := 8) rfl ?_); refine goesL_ (some 40) rfl rfl Tryd.func8 (by kernel_rfl) rfl #[.slice A1 l1.length c1] rfl (by (try simp only [List.map_toArray, List.map_cons, List.map_nil]); first | done | rfl | (simp only [List.length_drop, List.length_take]; rfl)) ?_; (with_reducible refine (laws_toIntS.calls k _ _ l1 t439 _ ?side1 ?side2 A20.out).mono ?_); (case side1 => repeat (first | exact (Kd.C_below HR1.out HB.out) | (with_reducible refine Kd.C_alloc ?_ _) | (with_reducible refine Kd.C_drewN ?_ _) | (with_reducible refine Kd.C_drew ?_))); (case side2 => exact HC1.out); rintro e w49 ⟨v440, rfl, ho0, hb⟩; refine ⟨_, rfl, ?_⟩; have n0_ := Aside0.mk (Kd.R_elder' (by (with_reducible repeat (first | apply Kd.R_alloc | apply Kd.R_drewN | apply Kd.R_drew)); exact HO413.out) (Kd.R_base ho0) hb); have n1_ := Aside0.mk (Kd.R_elder' (by (with_reducible repeat (first | apply Kd.R_alloc | apply Kd.R_drewN | apply Kd.R_drew)); exact HO416.out) (Kd.R_base ho0) hb); have n2_ := Aside0.mk (Kd.R_elder' (by (with_reducible repeat (first | apply Kd.R_alloc | apply Kd.R_drewN | apply Kd.R_drew)); exact HO419.out) (Kd.R_base ho0) hb); have n3_ := Aside0.mk (Kd.R_elder' (by (with_reducible repeat (first | apply Kd.R_alloc | apply Kd.R_drewN | apply Kd.R_drew)); exact HO423.out) (Kd.R_base ho0) hb); have n4_ := Aside0.mk (Kd.R_elder' (by (with_reducible repeat (first | apply Kd.R_alloc | apply Kd.R_drewN | apply Kd.R_drew)); exact HO426.out) (Kd.R_base ho0) hb); have n5_ := Aside0.mk (Kd.R_elder' (by (with_reducible repeat (first | apply Kd.R_alloc | apply Kd.R_drewN | apply Kd.R_drew)); exact HO430.out) (Kd.R_base ho0) hb); have n6_ := Aside0.mk (Kd.R_elder' (by (with_reducible repeat (first | apply Kd.R_alloc | apply Kd.R_drewN | apply Kd.R_drew)); exact HO434.out) (Kd.R_base ho0) hb); have n7_ := Aside0.mk (Kd.R_elder' (by (with_reducible repeat (first | apply Kd.R_alloc | apply Kd.R_drewN | apply Kd.R_drew)); exact HO437.out) (Kd.R_base ho0) hb); have n8_ := Aside0.mk (Kd.R_lower (Kd.R_new' (Kd.R_new' (Kd.R_new' (Kd.R_new' (Kd.R_new' (Kd.R_new' (Kd.R_new' (Kd.R_new' ho0 (Kd.R_lt (by (with_reducible repeat (first | apply Kd.R_alloc | apply Kd.R_drewN | apply Kd.R_drew)); exact HO413.out))) (Kd.R_lt (by (with_reducible repeat (first | apply Kd.R_alloc | apply Kd.R_drewN | apply Kd.R_drew)); exact HO416.out))) (Kd.R_lt (by (with_reducible repeat (first | apply Kd.R_alloc | apply Kd.R_drewN | apply Kd.R_drew)); exact HO419.out))) (Kd.R_lt (by (with_reducible repeat (first | apply Kd.R_alloc | apply Kd.R_drewN | apply Kd.R_drew)); exact HO423.out))) (Kd.R_lt (by (with_reducible repeat (first | apply Kd.R_alloc | apply Kd.R_drewN | apply Kd.R_drew)); exact HO426.out))) (Kd.R_lt (by (with_reducible repeat (first | apply Kd.R_alloc | apply Kd.R_drewN | apply Kd.R_drew)); exact HO430.out))) (Kd.R_lt (by (with_reducible repeat (first | apply Kd.R_alloc | apply Kd.R_drewN | apply Kd.R_drew)); exact HO434.out))) (Kd.R_lt (by (with_reducible repeat (first | apply Kd.R_alloc | apply Kd.R_drewN | apply Kd.R_drew)); exact HO437.out))) (below_size (by repeat (first | (with_reducible first | exact HB.out | apply below_alloc | apply pw_below_drewN | apply below_drew1 | refine below_set ?_ GE409.out | refine below_set ?_ GE427.out) | exact HB.out)))); have n9_ := Aside0.mk (blk_below (g := gb409) (o := .cells #[.slice A0_0 l0_0.length c0_0, .slice A0_1 l0_1.length c0_1] 35 (0, 0)) (by (with_reducible repeat (first | refine blk_drewN ?_ _ | refine blk_drew ?_ | refine blk_alloc ?_ _)); exact BK409.out) hb); have n10_ := Aside0.mk (blk_below (g := gb427) (o := .cells #[.slice Ao36 t421.length co36, .slice Ao39 t424.length co39] 38 (0, 0)) (by (with_reducible repeat (first | refine blk_drewN ?_ _ | refine blk_drew ?_ | refine blk_alloc ?_ _)); exact BK427.out) hb); have n11_ := Aside0.mk (below_step (by repeat (first | (with_reducible first | exact HB.out | apply below_alloc | apply pw_below_drewN | apply below_drew1 | refine below_set ?_ GE409.out | refine below_set ?_ GE427.out) | exact HB.out)) hb); clear HO413; clear HO416; clear HO419; clear HO423; clear HO426; clear HO430; clear HO434; clear HO437; clear BK409; clear BK427; clear HB; have HO413 := n0_; have HO416 := n1_; have HO419 := n2_; have HO423 := n3_; have HO426 := n4_; have HO430 := n5_; have HO434 := n6_; have HO437 := n7_; have HO441 := n8_; have BK409 := n9_; have BK427 := n10_; have HB := n11_; clear n0_ n1_ n2_ n3_ n4_ n5_ n6_ n7_ n8_ n9_ n10_ n11_; (try clear hb); (try clear hb2); (try clear hk); (try clear hi); (try clear ho0); obtain ⟨Ao50, co50, eo50⟩ := Kd.R_slice HO441.out; subst eo50) | ((with_reducible refine gate_callee (f := 11) rfl ?_); refine goesL_ (some 41) rfl rfl Tryd.func11 (by kernel_rfl) rfl #[.slice Ao42 t428.length co42, .slice Ao50 t439.length co50] rfl (by (try simp only [List.map_toArray, List.map_cons, List.map_nil]); first | done | rfl | (simp only [List.length_drop, List.length_take]; rfl)) ?_; (with_reducible refine (laws_eqIntS.calls k _ _ t428 _ _ t439 true _ ?side1 ?side2 ?side3 ?side4 A21.out).mono ?_); (case side1 => repeat (first | exact (Kd.R_reads' HO430.out).2.2 | (with_reducible refine Kd.C_alloc ?_ _) | (with_reducible refine Kd.C_drewN ?_ _) | (with_reducible refine Kd.C_drew ?_))); (case side2 => exact (Kd.R_reads' HO430.out).2.1); (case side3 => repeat (first | exact (Kd.R_reads' HO441.out).2.2 | (with_reducible refine Kd.C_alloc ?_ _) | (with_reducible refine Kd.C_drewN ?_ _) | (with_reducible refine Kd.C_drew ?_))); (case side4 => exact (Kd.R_reads' HO441.out).2.1); rintro e w' ⟨rfl, ⟨nd, rfl⟩⟩; refine ⟨_, rfl, ?_⟩))
      go_ret
      exact ⟨by first | rfl | (simp [errW_none, errW_some] <;> rfl) | (simp [*, errW_none, errW_some] <;> rfl), by repeat (first | (with_reducible first | exact HB.out | apply below_alloc | apply pw_below_drewN | apply below_drew1 | refine below_set ?_ GE409.out | refine below_set ?_ GE427.out) | exact HB.out)⟩
     ·
      replace c22 := Bool.eq_false_iff.mpr c22
      subst c22
      have H1 : (some false) = some r := by rw [if_neg (show ¬ (false = true) by decide)] at H; exact H
      clear H
      have H := H1
      clear H1
      obtain rfl := Option.some.inj H
      go_enter Tryd.func6, Tryd.ntmps6
      try go_wp2_with (first | ((with_reducible refine gate_dst (N := 2) rfl ?_); refine box_event ?hg (N := 2) ?hd (cs := #[.slice A0_0 l0_0.length c0_0, .slice A0_1 l0_1.length c0_1]) (t := 35) ?hr ?_; (case hd => rfl); (case hg => rfl); (case hr => first | (go_simp; done) | (go_simp; rfl)); intro gb409 hg w51 hbox hb; have n0_ := Aside0.mk (below_step (by repeat (first | (with_reducible first | exact HB.out | apply below_alloc | apply pw_below_drewN | apply below_drew1) | exact HB.out)) hb); have n1_ := Aside0.mk (hbox); have n2_ := Aside0.mk ((by rw [hg]; exact (below_size (by repeat (first | (with_reducible first | exact HB.out | apply below_alloc | apply pw_below_drewN | apply below_drew1) | exact HB.out))) : w.heap.size ≤ gb409)); have n3_ := Aside0.mk ((by rw [hg]; exact (below_size (by repeat (first | (with_reducible first | exact HB.out | apply below_alloc | apply pw_below_drewN | apply below_drew1) | exact HB.out))) : w.heap.size ≤ gb409)); clear HB; have HB := n0_; have BK409 := n1_; have GW409 := n2_; have GE409 := n3_; clear n0_ n1_ n2_ n3_; clear hb hbox hg; have hcz52_0 : w51.cell? ⟨gb409, 0, none⟩ = some (.slice A0_0 l0_0.length c0_0) := (blk_cell BK409.out 0).trans rfl; have hcz52_1 : w51.cell? ⟨gb409, 1, none⟩ = some (.slice A0_1 l0_1.length c0_1) := (blk_cell BK409.out 1).trans rfl; have hfz52_0 := blk_frozen BK409.out 0; have hfz52_1 := blk_frozen BK409.out 1) | ((with_reducible refine gate_callee (f := 17) rfl ?_); refine goesL_ (some 15) rfl rfl Tryd.func17 (by kernel_rfl) rfl #[.agg #[.slice A0_0 l0_0.length c0_0, .slice A0_1 l0_1.length c0_1], .int .i64 1048576] rfl (by (try simp only [List.map_toArray, List.map_cons, List.map_nil]); first | done | rfl | (simp only [List.length_drop, List.length_take]; rfl)) ?_; (with_reducible refine (laws_szShape.calls _ _ l0_0 _ _ l0_1 1048576 t410 _ ?side1 ?side2 ?side3 ?side4 A5.out).mono ?_); (case side1 => repeat (first | exact (Kd.C_below HR0_0.out HB.out) | (with_reducible refine Kd.C_alloc ?_ _) | (with_reducible refine Kd.C_drewN ?_ _) | (with_reducible refine Kd.C_drew ?_))); (case side2 => exact HC0_0.out); (case side3 => repeat (first | exact (Kd.C_below HR0_1.out HB.out) | (with_reducible refine Kd.C_alloc ?_ _) | (with_reducible refine Kd.C_drewN ?_ _) | (with_reducible refine Kd.C_drew ?_))); (case side4 => exact HC0_1.out); rintro e w53 ⟨rfl, hb⟩; refine ⟨_, rfl, ?_⟩; have n0_ := Aside0.mk (blk_below (g := gb409) (o := .cells #[.slice A0_0 l0_0.length c0_0, .slice A0_1 l0_1.length c0_1] 35 (0, 0)) (by (with_reducible repeat (first | refine blk_drewN ?_ _ | refine blk_drew ?_ | refine blk_alloc ?_ _)); exact BK409.out) hb); have n1_ := Aside0.mk (below_step (by repeat (first | (with_reducible first | exact HB.out | apply below_alloc | apply pw_below_drewN | apply below_drew1 | refine below_set ?_ GE409.out) | exact HB.out)) hb); clear BK409; clear HB; have BK409 := n0_; have HB := n1_; clear n0_ n1_; (try clear hb); (try clear hb2); (try clear hk); (try clear hi); have hcz54_0 : w53.cell? ⟨gb409, 0, none⟩ = some (.slice A0_0 l0_0.length c0_0) := (blk_cell BK409.out 0).trans rfl; have hcz54_1 : w53.cell? ⟨gb409, 1, none⟩ = some (.slice A0_1 l0_1.length c0_1) := (blk_cell BK409.out 1).trans rfl; have hfz54_0 := blk_frozen BK409.out 0; have hfz54_1 := blk_frozen BK409.out 1) | ((with_reducible refine gate_callee (f := 19) rfl ?_); refine goesL_ (some 19) rfl rfl Tryd.func19 (by kernel_rfl) rfl #[.agg #[.slice A0_0 l0_0.length c0_0, .slice A0_1 l0_1.length c0_1]] rfl (by (try simp only [List.map_toArray, List.map_cons, List.map_nil]); first | done | rfl | (simp only [List.length_drop, List.length_take]; rfl)) ?_; (with_reducible refine (laws_toShape.calls k _ _ l0_0 _ _ l0_1 t411 t414 _ ?side1 ?side2 ?side3 ?side4 A10.out).mono ?_); (case side1 => repeat (first | exact (Kd.C_below HR0_0.out HB.out) | (with_reducible refine Kd.C_alloc ?_ _) | (with_reducible refine Kd.C_drewN ?_ _) | (with_reducible refine Kd.C_drew ?_))); (case side2 => exact HC0_0.out); (case side3 => repeat (first | exact (Kd.C_below HR0_1.out HB.out) | (with_reducible refine Kd.C_alloc ?_ _) | (with_reducible refine Kd.C_drewN ?_ _) | (with_reducible refine Kd.C_drew ?_))); (case side4 => exact HC0_1.out); rintro e w55 ⟨v412, v415, rfl, ho0, ho1, hb⟩; refine ⟨_, rfl, ?_⟩; have n0_ := Aside0.mk (Kd.R_lower ho0 (below_size (by repeat (first | (with_reducible first | exact HB.out | apply below_alloc | apply pw_below_drewN | apply below_drew1 | refine below_set ?_ GE409.out) | exact HB.out)))); have n1_ := Aside0.mk (Kd.R_lower ho1 (below_size (by repeat (first | (with_reducible first | exact HB.out | apply below_alloc | apply pw_below_drewN | apply below_drew1 | refine below_set ?_ GE409.out) | exact HB.out)))); have n2_ := Aside0.mk (blk_below (g := gb409) (o := .cells #[.slice A0_0 l0_0.length c0_0, .slice A0_1 l0_1.length c0_1] 35 (0, 0)) (by (with_reducible repeat (first | refine blk_drewN ?_ _ | refine blk_drew ?_ | refine blk_alloc ?_ _)); exact BK409.out) hb); have n3_ := Aside0.mk (below_step (by repeat (first | (with_reducible first | exact HB.out | apply below_alloc | apply pw_below_drewN | apply below_drew1 | refine below_set ?_ GE409.out) | exact HB.out)) hb); clear BK409; clear HB; have HO413 := n0_; have HO416 := n1_; have BK409 := n2_; have HB := n3_; clear n0_ n1_ n2_ n3_; (try clear hb); (try clear hb2); (try clear hk); (try clear hi); (try clear ho0); (try clear ho1)) | ((with_reducible refine gate_callee (f := 8) rfl ?_); refine goesL_ (some 21) rfl rfl Tryd.func8 (by kernel_rfl) rfl #[.slice A1 l1.length c1] rfl (by (try simp only [List.map_toArray, List.map_cons, List.map_nil]); first | done | rfl | (simp only [List.length_drop, List.length_take]; rfl)) ?_; (with_reducible refine (laws_toIntS.calls k _ _ l1 t417 _ ?side1 ?side2 A11.out).mono ?_); (case side1 => repeat (first | exact (Kd.C_below HR1.out HB.out) | (with_reducible refine Kd.C_alloc ?_ _) | (with_reducible refine Kd.C_drewN ?_ _) | (with_reducible refine Kd.C_drew ?_))); (case side2 => exact HC1.out); rintro e w56 ⟨v418, rfl, ho0, hb⟩; refine ⟨_, rfl, ?_⟩; have n0_ := Aside0.mk (Kd.R_elder' (by (with_reducible repeat (first | apply Kd.R_alloc | apply Kd.R_drewN | apply Kd.R_drew)); exact HO413.out) (Kd.R_base ho0) hb); have n1_ := Aside0.mk (Kd.R_elder' (by (with_reducible repeat (first | apply Kd.R_alloc | apply Kd.R_drewN | apply Kd.R_drew)); exact HO416.out) (Kd.R_base ho0) hb); have n2_ := Aside0.mk (Kd.R_lower (Kd.R_new' (Kd.R_new' ho0 (Kd.R_lt (by (with_reducible repeat (first | apply Kd.R_alloc | apply Kd.R_drewN | apply Kd.R_drew)); exact HO413.out))) (Kd.R_lt (by (with_reducible repeat (first | apply Kd.R_alloc | apply Kd.R_drewN | apply Kd.R_drew)); exact HO416.out))) (below_size (by repeat (first | (with_reducible first | exact HB.out | apply below_alloc | apply pw_below_drewN | apply below_drew1 | refine below_set ?_ GE409.out) | exact HB.out)))); have n3_ := Aside0.mk (blk_below (g := gb409) (o := .cells #[.slice A0_0 l0_0.length c0_0, .slice A0_1 l0_1.length c0_1] 35 (0, 0)) (by (with_reducible repeat (first | refine blk_drewN ?_ _ | refine blk_drew ?_ | refine blk_alloc ?_ _)); exact BK409.out) hb); have n4_ := Aside0.mk (below_step (by repeat (first | (with_reducible first | exact HB.out | apply below_alloc | apply pw_below_drewN | apply below_drew1 | refine below_set ?_ GE409.out) | exact HB.out)) hb); clear HO413; clear HO416; clear BK409; clear HB; have HO413 := n0_; have HO416 := n1_; have HO419 := n2_; have BK409 := n3_; have HB := n4_; clear n0_ n1_ n2_ n3_ n4_; (try clear hb); (try clear hb2); (try clear hk); (try clear hi); (try clear ho0); obtain ⟨Ao57, co57, eo57⟩ := Kd.R_slice HO413.out; subst eo57; obtain ⟨Ao58, co58, eo58⟩ := Kd.R_slice HO416.out; subst eo58; obtain ⟨Ao59, co59, eo59⟩ := Kd.R_slice HO419.out; subst eo59) | ((with_reducible refine gate_callee (f := 22) rfl ?_); refine goesL_ (some 22) rfl rfl Tryd.func22 (by kernel_rfl) rfl #[.agg #[.slice Ao57 t411.length co57, .slice Ao58 t414.length co58], .slice Ao59 t417.length co59] rfl (by (try simp only [List.map_toArray, List.map_cons, List.map_nil]); first | done | rfl | (simp only [List.length_drop, List.length_take]; rfl)) ?_; (with_reducible refine (spec_KostkaNumber.calls k _ _ t411 _ _ t414 _ _ t417 t420 _ ?side1 ?side2 ?side3 ?side4 ?side5 ?side6 A12.out).mono ?_); (case side1 => repeat (first | exact (Kd.R_reads' HO413.out).2.2 | (with_reducible refine Kd.C_alloc ?_ _) | (with_reducible refine Kd.C_drewN ?_ _) | (with_reducible refine Kd.C_drew ?_))); (case side2 => exact (Kd.R_reads' HO413.out).2.1); (case side3 => repeat (first | exact (Kd.R_reads' HO416.out).2.2 | (with_reducible refine Kd.C_alloc ?_ _) | (with_reducible refine Kd.C_drewN ?_ _) | (with_reducible refine Kd.C_drew ?_))); (case side4 => exact (Kd.R_reads' HO416.out).2.1); (case side5 => repeat (first | exact (Kd.R_reads' HO419.out).2.2 | (with_reducible refine Kd.C_alloc ?_ _) | (with_reducible refine Kd.C_drewN ?_ _) | (with_reducible refine Kd.C_drew ?_))); (case side6 => exact (Kd.R_reads' HO419.out).2.1); rintro e w60 ⟨rfl, hb⟩; refine ⟨_, rfl, ?_⟩; have n0_ := Aside0.mk (Kd.R_below (by (with_reducible repeat (first | apply Kd.R_alloc | apply Kd.R_drewN | apply Kd.R_drew)); exact HO413.out) hb); have n1_ := Aside0.mk (Kd.R_below (by (with_reducible repeat (first | apply Kd.R_alloc | apply Kd.R_drewN | apply Kd.R_drew)); exact HO416.out) hb); have n2_ := Aside0.mk (Kd.R_below (by (with_reducible repeat (first | apply Kd.R_alloc | apply Kd.R_drewN | apply Kd.R_drew)); exact HO419.out) hb); have n3_ := Aside0.mk (blk_below (g := gb409) (o := .cells #[.slice A0_0 l0_0.length c0_0, .slice A0_1 l0_1.length c0_1] 35 (0, 0)) (by (with_reducible repeat (first | refine blk_drewN ?_ _ | refine blk_drew ?_ | refine blk_alloc ?_ _)); exact BK409.out) hb); have n4_ := Aside0.mk (below_step (by repeat (first | (with_reducible first | exact HB.out | apply below_alloc | apply pw_below_drewN | apply below_drew1 | refine below_set ?_ GE409.out) | exact HB.out)) hb); clear HO413; clear HO416; clear HO419; clear BK409; clear HB; have HO413 := n0_; have HO416 := n1_; have HO419 := n2_; have BK409 := n3_; have HB := n4_; clear n0_ n1_ n2_ n3_ n4_; (try clear hb); (try clear hb2); (try clear hk); (try clear hi); have hcz61_0 : w60.cell? ⟨gb409, 0, none⟩ = some (.slice A0_0 l0_0.length c0_0) := (blk_cell BK409.out 0).trans rfl; have hcz61_1 : w60.cell? ⟨gb409, 1, none⟩ = some (.slice A0_1 l0_1.length c0_1) := (blk_cell BK409.out 1).trans rfl; have hfz61_0 := blk_frozen BK409.out 0; have hfz61_1 := blk_frozen BK409.out 1) | ((with_reducible refine gate_callee (f := 19) rfl ?_); refine goesL_ (some 24) rfl rfl Tryd.func19 (by kernel_rfl) rfl #[.agg #[.slice A0_0 l0_0.length c0_0, .slice A0_1 l0_1.length c0_1]] rfl (by (try simp only [List.map_toArray, List.map_cons, List.map_nil]); first | done | rfl | (simp only [List.length_drop, List.length_take]; rfl)) ?_; (with_reducible refine (laws_toShape.calls k _ _ l0_0 _ _ l0_1 t421 t424 _ ?side1 ?side2 ?side3 ?side4 A13.out).mono ?_); (case side1 => repeat (first | exact (Kd.C_below HR0_0.out HB.out) | (with_reducible refine Kd.C_alloc ?_ _) | (with_reducible refine Kd.C_drewN ?_ _) | (with_reducible refine Kd.C_drew ?_))); (case side2 => exact HC0_0.out); (case side3 => repeat (first | exact (Kd.C_below HR0_1.out HB.out) | (with_reducible refine Kd.C_alloc ?_ _) | (with_reducible refine Kd.C_drewN ?_ _) | (with_reducible refine Kd.C_drew ?_))); (case side4 => exact HC0_1.out); rintro e w62 ⟨v422, v425, rfl, ho0, ho1, hb⟩; refine ⟨_, rfl, ?_⟩; have n0_ := Aside0.mk (Kd.R_mono (Kd.R_told (Kd.R_told (Kd.R_old (by (with_reducible repeat (first | apply Kd.R_alloc | apply Kd.R_drewN | apply Kd.R_drew)); exact HO413.out) hb) (Kd.R_base ho0)) (Kd.R_base ho1)) (fun _ h_ => h_.1)); have n1_ := Aside0.mk (Kd.R_mono (Kd.R_told (Kd.R_told (Kd.R_old (by (with_reducible repeat (first | apply Kd.R_alloc | apply Kd.R_drewN | apply Kd.R_drew)); exact HO416.out) hb) (Kd.R_base ho0)) (Kd.R_base ho1)) (fun _ h_ => h_.1)); have n2_ := Aside0.mk (Kd.R_mono (Kd.R_told (Kd.R_told (Kd.R_old (by (with_reducible repeat (first | apply Kd.R_alloc | apply Kd.R_drewN | apply Kd.R_drew)); exact HO419.out) hb) (Kd.R_base ho0)) (Kd.R_base ho1)) (fun _ h_ => h_.1)); have n3_ := Aside0.mk (Kd.R_lower (Kd.R_new' (Kd.R_new' (Kd.R_new' ho0 (Kd.R_lt (by (with_reducible repeat (first | apply Kd.R_alloc | apply Kd.R_drewN | apply Kd.R_drew)); exact HO413.out))) (Kd.R_lt (by (with_reducible repeat (first | apply Kd.R_alloc | apply Kd.R_drewN | apply Kd.R_drew)); exact HO416.out))) (Kd.R_lt (by (with_reducible repeat (first | apply Kd.R_alloc | apply Kd.R_drewN | apply Kd.R_drew)); exact HO419.out))) (below_size (by repeat (first | (with_reducible first | exact HB.out | apply below_alloc | apply pw_below_drewN | apply below_drew1 | refine below_set ?_ GE409.out) | exact HB.out)))); have n4_ := Aside0.mk (Kd.R_lower (Kd.R_new' (Kd.R_new' (Kd.R_new' ho1 (Kd.R_lt (by (with_reducible repeat (first | apply Kd.R_alloc | apply Kd.R_drewN | apply Kd.R_drew)); exact HO413.out))) (Kd.R_lt (by (with_reducible repeat (first | apply Kd.R_alloc | apply Kd.R_drewN | apply Kd.R_drew)); exact HO416.out))) (Kd.R_lt (by (with_reducible repeat (first | apply Kd.R_alloc | apply Kd.R_drewN | apply Kd.R_drew)); exact HO419.out))) (below_size (by repeat (first | (with_reducible first | exact HB.out | apply below_alloc | apply pw_below_drewN | apply below_drew1 | refine below_set ?_ GE409.out) | exact HB.out)))); have n5_ := Aside0.mk (blk_below (g := gb409) (o := .cells #[.slice A0_0 l0_0.length c0_0, .slice A0_1 l0_1.length c0_1] 35 (0, 0)) (by (with_reducible repeat (first | refine blk_drewN ?_ _ | refine blk_drew ?_ | refine blk_alloc ?_ _)); exact BK409.out) hb); have n6_ := Aside0.mk (below_step (by repeat (first | (with_reducible first | exact HB.out | apply below_alloc | apply pw_below_drewN | apply below_drew1 | refine below_set ?_ GE409.out) | exact HB.out)) hb); clear HO413; clear HO416; clear HO419; clear BK409; clear HB; have HO413 := n0_; have HO416 := n1_; have HO419 := n2_; have HO423 := n3_; have HO426 := n4_; have BK409 := n5_; have HB := n6_; clear n0_ n1_ n2_ n3_ n4_ n5_ n6_; (try clear hb); (try clear hb2); (try clear hk); (try clear hi); (try clear ho0); (try clear ho1)) | ((with_reducible refine gate_dst (N := 7) rfl ?_); refine box_event ?hg (N := 7) ?hd (cs := #[.slice none 0 0, .slice none 0 0]) (t := 38) ?hr ?_; (case hd => rfl); (case hg => rfl); (case hr => first | (go_simp; done) | (go_simp; rfl)); intro gb427 hg w63 hbox hb; have n0_ := Aside0.mk (Kd.R_below (by (with_reducible repeat (first | apply Kd.R_alloc | apply Kd.R_drewN | apply Kd.R_drew)); exact HO413.out) hb); have n1_ := Aside0.mk (Kd.R_below (by (with_reducible repeat (first | apply Kd.R_alloc | apply Kd.R_drewN | apply Kd.R_drew)); exact HO416.out) hb); have n2_ := Aside0.mk (Kd.R_below (by (with_reducible repeat (first | apply Kd.R_alloc | apply Kd.R_drewN | apply Kd.R_drew)); exact HO419.out) hb); have n3_ := Aside0.mk (Kd.R_below (by (with_reducible repeat (first | apply Kd.R_alloc | apply Kd.R_drewN | apply Kd.R_drew)); exact HO423.out) hb); have n4_ := Aside0.mk (Kd.R_below (by (with_reducible repeat (first | apply Kd.R_alloc | apply Kd.R_drewN | apply Kd.R_drew)); exact HO426.out) hb); have n5_ := Aside0.mk (blk_below (g := gb409) (o := .cells #[.slice A0_0 l0_0.length c0_0, .slice A0_1 l0_1.length c0_1] 35 (0, 0)) (by (with_reducible repeat (first | refine blk_drewN ?_ _ | refine blk_drew ?_ | refine blk_alloc ?_ _)); exact BK409.out) hb); have n6_ := Aside0.mk (below_step (by repeat (first | (with_reducible first | exact HB.out | apply below_alloc | apply pw_below_drewN | apply below_drew1 | refine below_set ?_ GE409.out) | exact HB.out)) hb); have n7_ := Aside0.mk (hbox); have n8_ := Aside0.mk ((by rw [hg]; exact (below_size (by repeat (first | (with_reducible first | exact HB.out | apply below_alloc | apply pw_below_drewN | apply below_drew1 | refine below_set ?_ GE409.out) | exact HB.out))) : w.heap.size ≤ gb427)); have n9_ := Aside0.mk ((by rw [hg]; exact (below_size (by repeat (first | (with_reducible first | exact HB.out | apply below_alloc | apply pw_below_drewN | apply below_drew1 | refine below_set ?_ GE409.out) | exact HB.out))) : w.heap.size ≤ gb427)); have n10_ := Aside0.mk ((by rw [hg]; exact Nat.ne_of_lt (blk_lt (g := gb409) (o := .cells #[.slice A0_0 l0_0.length c0_0, .slice A0_1 l0_1.length c0_1] 35 (0, 0)) (by (with_reducible repeat (first | refine blk_drewN ?_ _ | refine blk_drew ?_ | refine blk_alloc ?_ _)); exact BK409.out)) : gb409 ≠ gb427)); have n11_ := Aside0.mk ((by rw [hg]; exact Nat.ne_of_gt (blk_lt (g := gb409) (o := .cells #[.slice A0_0 l0_0.length c0_0, .slice A0_1 l0_1.length c0_1] 35 (0, 0)) (by (with_reducible repeat (first | refine blk_drewN ?_ _ | refine blk_drew ?_ | refine blk_alloc ?_ _)); exact BK409.out)) : gb427 ≠ gb409)); clear HO413; clear HO416; clear HO419; clear HO423; clear HO426; clear BK409; clear HB; have HO413 := n0_; have HO416 := n1_; have HO419 := n2_; have HO423 := n3_; have HO426 := n4_; have BK409 := n5_; have HB := n6_; have BK427 := n7_; have GW427 := n8_; have GE427 := n9_; have NB409_427 := n10_; have NB427_409 := n11_; clear n0_ n1_ n2_ n3_ n4_ n5_ n6_ n7_ n8_ n9_ n10_ n11_; clear hb hbox hg; obtain ⟨Ao64, co64, eo64⟩ := Kd.R_slice HO423.out; subst eo64; have hnb65 := NB427_409.out; have hnc65 := NB409_427.out; have hcz66_0 : w63.cell? ⟨gb427, 0, none⟩ = some (.slice none 0 0) := (blk_cell BK427.out 0).trans rfl; have hcz66_1 : w63.cell? ⟨gb427, 1, none⟩ = some (.slice none 0 0) := (blk_cell BK427.out 1).trans rfl; have hfz66_0 := blk_frozen BK427.out 0; have hfz66_1 := blk_frozen BK427.out 1; obtain ⟨Ao67, co67, eo67⟩ := Kd.R_slice HO426.out; subst eo67) | ((with_reducible refine gate_callee (f := 8) rfl ?_); refine goesL_ (some 26) rfl rfl Tryd.func8 (by kernel_rfl) rfl #[.slice A1 l1.length c1] rfl (by (try simp only [List.map_toArray, List.map_cons, List.map_nil]); first | done | rfl | (simp only [List.length_drop, List.length_take]; rfl)) ?_; (with_reducible refine (laws_toIntS.calls k _ _ l1 t428 _ ?side1 ?side2 A14.out).mono ?_); (case side1 => exact Kd.C_below HR1.out (by repeat (first | (with_reducible first | exact HB.out | apply below_alloc | apply pw_below_drewN | apply below_drew1 | refine below_set ?_ GE409.out | refine below_set ?_ GE427.out) | exact HB.out))); (case side2 => exact HC1.out); rintro e w68 ⟨v429, rfl, ho0, hb⟩; refine ⟨_, rfl, ?_⟩; have n0_ := Aside0.mk (Kd.R_elder' (by (with_reducible repeat (first | apply Kd.R_alloc | apply Kd.R_drewN | apply Kd.R_drew)); exact (Kd.R_mono (Kd.R_far (p := ⟨gb427, 1, none⟩) (Kd.R_far (p := ⟨gb427, 0, none⟩) (Kd.R_types HO413.out BK427.out (by decide)) (fun _ hk => hk.2) (.slice Ao64 t421.length co64)) (fun _ hk => hk.2) (.slice Ao67 t424.length co67)) (fun _ h_ => h_.1))) (Kd.R_base ho0) hb); have n1_ := Aside0.mk (Kd.R_elder' (by (with_reducible repeat (first | apply Kd.R_alloc | apply Kd.R_drewN | apply Kd.R_drew)); exact (Kd.R_mono (Kd.R_far (p := ⟨gb427, 1, none⟩) (Kd.R_far (p := ⟨gb427, 0, none⟩) (Kd.R_types HO416.out BK427.out (by decide)) (fun _ hk => hk.2) (.slice Ao64 t421.length co64)) (fun _ hk => hk.2) (.slice Ao67 t424.length co67)) (fun _ h_ => h_.1))) (Kd.R_base ho0) hb); have n2_ := Aside0.mk (Kd.R_elder' (by (with_reducible repeat (first | apply Kd.R_alloc | apply Kd.R_drewN | apply Kd.R_drew)); exact (Kd.R_mono (Kd.R_far (p := ⟨gb427, 1, none⟩) (Kd.R_far (p := ⟨gb427, 0, none⟩) (Kd.R_types HO419.out BK427.out (by decide)) (fun _ hk => hk.2) (.slice Ao64 t421.length co64)) (fun _ hk => hk.2) (.slice Ao67 t424.length co67)) (fun _ h_ => h_.1))) (Kd.R_base ho0) hb); have n3_ := Aside0.mk (Kd.R_elder' (by (with_reducible repeat (first | apply Kd.R_alloc | apply Kd.R_drewN | apply Kd.R_drew)); exact (Kd.R_mono (Kd.R_far (p := ⟨gb427, 1, none⟩) (Kd.R_far (p := ⟨gb427, 0, none⟩) (Kd.R_types HO423.out BK427.out (by decide)) (fun _ hk => hk.2) (.slice Ao64 t421.length co64)) (fun _ hk => hk.2) (.slice Ao67 t424.length co67)) (fun _ h_ => h_.1))) (Kd.R_base ho0) hb); have n4_ := Aside0.mk (Kd.R_elder' (by (with_reducible repeat (first | apply Kd.R_alloc | apply Kd.R_drewN | apply Kd.R_drew)); exact (Kd.R_mono (Kd.R_far (p := ⟨gb427, 1, none⟩) (Kd.R_far (p := ⟨gb427, 0, none⟩) (Kd.R_types HO426.out BK427.out (by decide)) (fun _ hk => hk.2) (.slice Ao64 t421.length co64)) (fun _ hk => hk.2) (.slice Ao67 t424.length co67)) (fun _ h_ => h_.1))) (Kd.R_base ho0) hb); have n5_ := Aside0.mk (Kd.R_lower (Kd.R_new' (Kd.R_new' (Kd.R_new' (Kd.R_new' (Kd.R_new' ho0 (Kd.R_lt (by (with_reducible repeat (first | apply Kd.R_alloc | apply Kd.R_drewN | apply Kd.R_drew)); exact (Kd.R_mono (Kd.R_far (p := ⟨gb427, 1, none⟩) (Kd.R_far (p := ⟨gb427, 0, none⟩) (Kd.R_types HO413.out BK427.out (by decide)) (fun _ hk => hk.2) (.slice Ao64 t421.length co64)) (fun _ hk => hk.2) (.slice Ao67 t424.length co67)) (fun _ h_ => h_.1))))) (Kd.R_lt (by (with_reducible repeat (first | apply Kd.R_alloc | apply Kd.R_drewN | apply Kd.R_drew)); exact (Kd.R_mono (Kd.R_far (p := ⟨gb427, 1, none⟩) (Kd.R_far (p := ⟨gb427, 0, none⟩) (Kd.R_types HO416.out BK427.out (by decide)) (fun _ hk => hk.2) (.slice Ao64 t421.length co64)) (fun _ hk => hk.2) (.slice Ao67 t424.length co67)) (fun _ h_ => h_.1))))) (Kd.R_lt (by (with_reducible repeat (first | apply Kd.R_alloc | apply Kd.R_drewN | apply Kd.R_drew)); exact (Kd.R_mono (Kd.R_far (p := ⟨gb427, 1, none⟩) (Kd.R_far (p := ⟨gb427, 0, none⟩) (Kd.R_types HO419.out BK427.out (by decide)) (fun _ hk => hk.2) (.slice Ao64 t421.length co64)) (fun _ hk => hk.2) (.slice Ao67 t424.length co67)) (fun _ h_ => h_.1))))) (Kd.R_lt (by (with_reducible repeat (first | apply Kd.R_alloc | apply Kd.R_drewN | apply Kd.R_drew)); exact (Kd.R_mono (Kd.R_far (p := ⟨gb427, 1, none⟩) (Kd.R_far (p := ⟨gb427, 0, none⟩) (Kd.R_types HO423.out BK427.out (by decide)) (fun _ hk => hk.2) (.slice Ao64 t421.length co64)) (fun _ hk => hk.2) (.slice Ao67 t424.length co67)) (fun _ h_ => h_.1))))) (Kd.R_lt (by (with_reducible repeat (first | apply Kd.R_alloc | apply Kd.R_drewN | apply Kd.R_drew)); exact (Kd.R_mono (Kd.R_far (p := ⟨gb427, 1, none⟩) (Kd.R_far (p := ⟨gb427, 0, none⟩) (Kd.R_types HO426.out BK427.out (by decide)) (fun _ hk => hk.2) (.slice Ao64 t421.length co64)) (fun _ hk => hk.2) (.slice Ao67 t424.length co67)) (fun _ h_ => h_.1))))) (below_size (by repeat (first | (with_reducible first | exact HB.out | apply below_alloc | apply pw_below_drewN | apply below_drew1 | refine below_set ?_ GE409.out | refine below_set ?_ GE427.out) | exact HB.out)))); have n6_ := Aside0.mk (blk_below (g := gb409) (o := .cells #[.slice A0_0 l0_0.length c0_0, .slice A0_1 l0_1.length c0_1] 35 (0, 0)) (by (with_reducible repeat (first | refine blk_drewN ?_ _ | refine blk_drew ?_ | refine blk_alloc ?_ _)); refine blk_far ?_ NB409_427.out _; (with_reducible repeat (first | refine blk_drewN ?_ _ | refine blk_drew ?_ | refine blk_alloc ?_ _)); refine blk_far ?_ NB409_427.out _; (with_reducible repeat (first | refine blk_drewN ?_ _ | refine blk_drew ?_ | refine blk_alloc ?_ _)); exact BK409.out) hb); have n7_ := Aside0.mk (blk_below (g := gb427) (o := .cells #[.slice Ao64 t421.length co64, .slice Ao67 t424.length co67] 38 (0, 0)) (by (with_reducible repeat (first | refine blk_drewN ?_ _ | refine blk_drew ?_ | refine blk_alloc ?_ _)); refine blk_put (cs := #[.slice Ao64 t421.length co64, .slice none 0 0]) ?_ 1 _ rfl; (with_reducible repeat (first | refine blk_drewN ?_ _ | refine blk_drew ?_ | refine blk_alloc ?_ _)); refine blk_put (cs := #[.slice none 0 0, .slice none 0 0]) ?_ 0 _ rfl; (with_reducible repeat (first | refine blk_drewN ?_ _ | refine blk_drew ?_ | refine blk_alloc ?_ _)); exact BK427.out) hb); have n8_ := Aside0.mk (below_step (by repeat (first | (with_reducible first | exact HB.out | apply below_alloc | apply pw_below_drewN | apply below_drew1 | refine below_set ?_ GE409.out | refine below_set ?_ GE427.out) | exact HB.out)) hb); clear HO413; clear HO416; clear HO419; clear HO423; clear HO426; clear BK409; clear BK427; clear HB; have HO413 := n0_; have HO416 := n1_; have HO419 := n2_; have HO423 := n3_; have HO426 := n4_; have HO430 := n5_; have BK409 := n6_; have BK427 := n7_; have HB := n8_; clear n0_ n1_ n2_ n3_ n4_ n5_ n6_ n7_ n8_; (try clear hb); (try clear hb2); (try clear hk); (try clear hi); (try clear ho0); have hcz69_0 : w68.cell? ⟨gb427, 0, none⟩ = some (.slice Ao64 t421.length co64) := (blk_cell BK427.out 0).trans rfl; have hcz69_1 : w68.cell? ⟨gb427, 1, none⟩ = some (.slice Ao67 t424.length co67) := (blk_cell BK427.out 1).trans rfl; have hfz69_0 := blk_frozen BK427.out 0; have hfz69_1 := blk_frozen BK427.out 1; obtain ⟨Ao70, co70, eo70⟩ := Kd.R_slice HO430.out; subst eo70) | ((with_reducible refine gate_callee (f := 23) rfl ?_); refine goesL_ (some 29) rfl rfl Tryd.func23 (by kernel_rfl) rfl #[.agg #[.slice Ao64 t421.length co64, .slice Ao67 t424.length co67], .slice Ao70 t428.length co70] rfl (by (try simp only [List.map_toArray, List.map_cons, List.map_nil]); first | done | rfl | (simp only [List.length_drop, List.length_take]; rfl)) ?_; (with_reducible refine (impl_KostkaNumber.calls k _ _ t421 _ _ t424 _ _ t428 t431 _ ?side1 ?side2 ?side3 ?side4 ?side5 ?side6 A15.out).mono ?_); (case side1 => repeat (first | exact (Kd.R_reads' HO423.out).2.2 | (with_reducible refine Kd.C_alloc ?_ _) | (with_reducible refine Kd.C_drewN ?_ _) | (with_reducible refine Kd.C_drew ?_))); (case side2 => exact (Kd.R_reads' HO423.out).2.1); (case side3 => repeat (first | exact (Kd.R_reads' HO426.out).2.2 | (with_reducible refine Kd.C_alloc ?_ _) | (with_reducible refine Kd.C_drewN ?_ _) | (with_reducible refine Kd.C_drew ?_))); (case side4 => exact (Kd.R_reads' HO426.out).2.1); (case side5 => repeat (first | exact (Kd.R_reads' HO430.out).2.2 | (with_reducible refine Kd.C_alloc ?_ _) | (with_reducible refine Kd.C_drewN ?_ _) | (with_reducible refine Kd.C_drew ?_))); (case side6 => exact (Kd.R_reads' HO430.out).2.1); rintro e w71 ⟨rfl, hb⟩; refine ⟨_, rfl, ?_⟩; have n0_ := Aside0.mk (Kd.R_below (by (with_reducible repeat (first | apply Kd.R_alloc | apply Kd.R_drewN | apply Kd.R_drew)); exact HO413.out) hb); have n1_ := Aside0.mk (Kd.R_below (by (with_reducible repeat (first | apply Kd.R_alloc | apply Kd.R_drewN | apply Kd.R_drew)); exact HO416.out) hb); have n2_ := Aside0.mk (Kd.R_below (by (with_reducible repeat (first | apply Kd.R_alloc | apply Kd.R_drewN | apply Kd.R_drew)); exact HO419.out) hb); have n3_ := Aside0.mk (Kd.R_below (by (with_reducible repeat (first | apply Kd.R_alloc | apply Kd.R_drewN | apply Kd.R_drew)); exact HO423.out) hb); have n4_ := Aside0.mk (Kd.R_below (by (with_reducible repeat (first | apply Kd.R_alloc | apply Kd.R_drewN | apply Kd.R_drew)); exact HO426.out) hb); have n5_ := Aside0.mk (Kd.R_below (by (with_reducible repeat (first | apply Kd.R_alloc | apply Kd.R_drewN | apply Kd.R_drew)); exact HO430.out) hb); have n6_ := Aside0.mk (blk_below (g := gb409) (o := .cells #[.slice A0_0 l0_0.length c0_0, .slice A0_1 l0_1.length c0_1] 35 (0, 0)) (by (with_reducible repeat (first | refine blk_drewN ?_ _ | refine blk_drew ?_ | refine blk_alloc ?_ _)); exact BK409.out) hb); have n7_ := Aside0.mk (blk_below (g := gb427) (o := .cells #[.slice Ao64 t421.length co64, .slice Ao67 t424.length co67] 38 (0, 0)) (by (with_reducible repeat (first | refine blk_drewN ?_ _ | refine blk_drew ?_ | refine blk_alloc ?_ _)); exact BK427.out) hb); have n8_ := Aside0.mk (below_step (by repeat (first | (with_reducible first | exact HB.out | apply below_alloc | apply pw_below_drewN | apply below_drew1 | refine below_set ?_ GE409.out | refine below_set ?_ GE427.out) | exact HB.out)) hb); clear HO413; clear HO416; clear HO419; clear HO423; clear HO426; clear HO430; clear BK409; clear BK427; clear HB; have HO413 := n0_; have HO416 := n1_; have HO419 := n2_; have HO423 := n3_; have HO426 := n4_; have HO430 := n5_; have BK409 := n6_; have BK427 := n7_; have HB := n8_; clear n0_ n1_ n2_ n3_ n4_ n5_ n6_ n7_ n8_; (try clear hb); (try clear hb2); (try clear hk); (try clear hi)))
      have n0_ := Aside0.mk (Kd.R_drew HO413.out)
      have n1_ := Aside0.mk (Kd.R_drew HO416.out)
      have n2_ := Aside0.mk (Kd.R_drew HO419.out)
      have n3_ := Aside0.mk (Kd.R_drew HO423.out)
      have n4_ := Aside0.mk (Kd.R_drew HO426.out)
      have n5_ := Aside0.mk (Kd.R_drew HO430.out)
      have n6_ := Aside0.mk (blk_drew BK409.out)
      have n7_ := Aside0.mk (blk_drew BK427.out)
      have n8_ := Aside0.mk (below_drew1 HB.out)
      clear HO413
      clear HO416
      clear HO419
      clear HO423
      clear HO426
      clear HO430
      clear BK409
      clear BK427
      clear HB
      have HO413 := n0_
      have HO416 := n1_
      have HO419 := n2_
      have HO423 := n3_
      have HO426 := n4_
      have HO430 := n5_
      have BK409 := n6_
      have BK427 := n7_
      have HB := n8_
      clear n0_ n1_ n2_ n3_ n4_ n5_ n6_ n7_ n8_
      refine start_ (n := 5) (S := fun w' => w'.cell? ⟨gb427, 0, none⟩ = some (.slice Ao64 t421.length co64) ∧ w'.cell? ⟨gb427, 1, none⟩ = some (.slice Ao67 t424.length co67) ∧ w'.cell? ⟨gb409, 0, none⟩ = some (.slice A0_0 l0_0.length c0_0) ∧ w'.cell? ⟨gb409, 1, none⟩ = some (.slice A0_1 l0_1.length c0_1)) (ds := []) #[false, false, false, false, false] (by kernel_rfl) rfl rfl ⟨(blk_cell BK427.out 0).trans rfl, (blk_cell BK427.out 1).trans rfl, (blk_cell BK409.out 0).trans rfl, (blk_cell BK409.out 1).trans rfl⟩ (fun hHeld => ?_)
      generalize w71.drew = w72 at HO413 HO416 HO419 HO423 HO426 HO430 BK409 BK427 HB hHeld ⊢
      refine take_ (i := 0) (N := some 33) (v := ?_) (a' := ?_) #[true, false, false, false, false] rfl rfl (by kernel_rfl) (fun _ _ _ h => h) (Or.inl ⟨by rfl, ?_⟩) hHeld ?_ ?_
      rotate_left
      ·
       rintro w' ⟨s0, s1, s2, s3⟩
       go_simp
       with_reducible rfl
      rotate_left
      ·
       simp only [Act.put, List.setIfInBounds_toArray, List.set_cons_zero, List.set_cons_succ, i64_w, i32_w]
       rfl
      refine take_ (i := 1) (N := some 34) (v := ?_) (a' := ?_) #[true, true, false, false, false] rfl rfl (by kernel_rfl) (fun _ _ _ h => h) (Or.inl ⟨by rfl, ?_⟩) hHeld ?_ ?_
      rotate_left
      ·
       rintro w' ⟨s0, s1, s2, s3⟩
       go_simp
       with_reducible rfl
      rotate_left
      ·
       simp only [Act.put, List.setIfInBounds_toArray, List.set_cons_zero, List.set_cons_succ, i64_w, i32_w]
       rfl
      refine one_ (i := 2) (N := some 35) #[true, true, true, false, false] rfl rfl (by kernel_rfl) (by decide) (fun K hK => ?_)
      refine goes_ Tryd.func19 (by kernel_rfl) rfl #[.agg #[.slice A0_0 l0_0.length c0_0, .slice A0_1 l0_1.length c0_1]] (by rfl) rfl rfl (by (try simp only [List.map_toArray, List.map_cons, List.map_nil]); first | done | rfl | (simp only [List.length_drop, List.length_take]; rfl)) ?_
      with_reducible refine (laws_toShape.calls k _ _ l0_0 _ _ l0_1 t432 t435 _ ?side1 ?side2 ?side3 ?side4 A17.out).mono ?_
      (case side1 => repeat (first | exact (Kd.C_below HR0_0.out HB.out) | (with_reducible refine Kd.C_alloc ?_ _) | (with_reducible refine Kd.C_drewN ?_ _) | (with_reducible refine Kd.C_drew ?_)))
      (case side2 => exact HC0_0.out)
      (case side3 => repeat (first | exact (Kd.C_below HR0_1.out HB.out) | (with_reducible refine Kd.C_alloc ?_ _) | (with_reducible refine Kd.C_drewN ?_ _) | (with_reducible refine Kd.C_drew ?_)))
      (case side4 => exact HC0_1.out)
      rintro e w73 ⟨v433, v436, rfl, ho0, ho1, hb⟩
      refine ⟨_, rfl, ?_⟩
      have n0_ := Aside0.mk (Kd.R_mono (Kd.R_told (Kd.R_told (Kd.R_old (by (with_reducible repeat (first | apply Kd.R_alloc | apply Kd.R_drewN | apply Kd.R_drew)); exact HO413.out) hb) (Kd.R_base ho0)) (Kd.R_base ho1)) (fun _ h_ => h_.1))
      have n1_ := Aside0.mk (Kd.R_mono (Kd.R_told (Kd.R_told (Kd.R_old (by (with_reducible repeat (first | apply Kd.R_alloc | apply Kd.R_drewN | apply Kd.R_drew)); exact HO416.out) hb) (Kd.R_base ho0)) (Kd.R_base ho1)) (fun _ h_ => h_.1))
      have n2_ := Aside0.mk (Kd.R_mono (Kd.R_told (Kd.R_told (Kd.R_old (by (with_reducible repeat (first | apply Kd.R_alloc | apply Kd.R_drewN | apply Kd.R_drew)); exact HO419.out) hb) (Kd.R_base ho0)) (Kd.R_base ho1)) (fun _ h_ => h_.1))
      have n3_ := Aside0.mk (Kd.R_mono (Kd.R_told (Kd.R_told (Kd.R_old (by (with_reducible repeat (first | apply Kd.R_alloc | apply Kd.R_drewN | apply Kd.R_drew)); exact HO423.out) hb) (Kd.R_base ho0)) (Kd.R_base ho1)) (fun _ h_ => h_.1))
      have n4_ := Aside0.mk (Kd.R_mono (Kd.R_told (Kd.R_told (Kd.R_old (by (with_reducible repeat (first | apply Kd.R_alloc | apply Kd.R_drewN | apply Kd.R_drew)); exact HO426.out) hb) (Kd.R_base ho0)) (Kd.R_base ho1)) (fun _ h_ => h_.1))
      have n5_ := Aside0.mk (Kd.R_mono (Kd.R_told (Kd.R_told (Kd.R_old (by (with_reducible repeat (first | apply Kd.R_alloc | apply Kd.R_drewN | apply Kd.R_drew)); exact HO430.out) hb) (Kd.R_base ho0)) (Kd.R_base ho1)) (fun _ h_ => h_.1))
      have n6_ := Aside0.mk (Kd.R_lower (Kd.R_new' (Kd.R_new' (Kd.R_new' (Kd.R_new' (Kd.R_new' (Kd.R_new' ho0 (Kd.R_lt (by (with_reducible repeat (first | apply Kd.R_alloc | apply Kd.R_drewN | apply Kd.R_drew)); exact HO413.out))) (Kd.R_lt (by (with_reducible repeat (first | apply Kd.R_alloc | apply Kd.R_drewN | apply Kd.R_drew)); exact HO416.out))) (Kd.R_lt (by (with_reducible repeat (first | apply Kd.R_alloc | apply Kd.R_drewN | apply Kd.R_drew)); exact HO419.out))) (Kd.R_lt (by (with_reducible repeat (first | apply Kd.R_alloc | apply Kd.R_drewN | apply Kd.R_drew)); exact HO423.out))) (Kd.R_lt (by (with_reducible repeat (first | apply Kd.R_alloc | apply Kd.R_drewN | apply Kd.R_drew)); exact HO426.out))) (Kd.R_lt (by (with_reducible repeat (first | apply Kd.R_alloc | apply Kd.R_drewN | apply Kd.R_drew)); exact HO430.out))) (below_size (by repeat (first | (with_reducible first | exact HB.out | apply below_alloc | apply pw_below_drewN | apply below_drew1 | refine below_set ?_ GE409.out | refine below_set ?_ GE427.out) | exact HB.out))))
      have n7_ := Aside0.mk (Kd.R_lower (Kd.R_new' (Kd.R_new' (Kd.R_new' (Kd.R_new' (Kd.R_new' (Kd.R_new' ho1 (Kd.R_lt (by (with_reducible repeat (first | apply Kd.R_alloc | apply Kd.R_drewN | apply Kd.R_drew)); exact HO413.out))) (Kd.R_lt (by (with_reducible repeat (first | apply Kd.R_alloc | apply Kd.R_drewN | apply Kd.R_drew)); exact HO416.out))) (Kd.R_lt (by (with_reducible repeat (first | apply Kd.R_alloc | apply Kd.R_drewN | apply Kd.R_drew)); exact HO419.out))) (Kd.R_lt (by (with_reducible repeat (first | apply Kd.R_alloc | apply Kd.R_drewN | apply Kd.R_drew)); exact HO423.out))) (Kd.R_lt (by (with_reducible repeat (first | apply Kd.R_alloc | apply Kd.R_drewN | apply Kd.R_drew)); exact HO426.out))) (Kd.R_lt (by (with_reducible repeat (first | apply Kd.R_alloc | apply Kd.R_drewN | apply Kd.R_drew)); exact HO430.out))) (below_size (by repeat (first | (with_reducible first | exact HB.out | apply below_alloc | apply pw_below_drewN | apply below_drew1 | refine below_set ?_ GE409.out | refine below_set ?_ GE427.out) | exact HB.out))))
      have n8_ := Aside0.mk (blk_below (g := gb409) (o := .cells #[.slice A0_0 l0_0.length c0_0, .slice A0_1 l0_1.length c0_1] 35 (0, 0)) (by (with_reducible repeat (first | refine blk_drewN ?_ _ | refine blk_drew ?_ | refine blk_alloc ?_ _)); exact BK409.out) hb)
      have n9_ := Aside0.mk (blk_below (g := gb427) (o := .cells #[.slice Ao64 t421.length co64, .slice Ao67 t424.length co67] 38 (0, 0)) (by (with_reducible repeat (first | refine blk_drewN ?_ _ | refine blk_drew ?_ | refine blk_alloc ?_ _)); exact BK427.out) hb)
      have n10_ := Aside0.mk (below_step (by repeat (first | (with_reducible first | exact HB.out | apply below_alloc | apply pw_below_drewN | apply below_drew1 | refine below_set ?_ GE409.out | refine below_set ?_ GE427.out) | exact HB.out)) hb)
      clear HO413
      clear HO416
      clear HO419
      clear HO423
      clear HO426
      clear HO430
      clear BK409
      clear BK427
      clear HB
      have HO413 := n0_
      have HO416 := n1_
      have HO419 := n2_
      have HO423 := n3_
      have HO426 := n4_
      have HO430 := n5_
      have HO434 := n6_
      have HO437 := n7_
      have BK409 := n8_
      have BK427 := n9_
      have HB := n10_
      clear n0_ n1_ n2_ n3_ n4_ n5_ n6_ n7_ n8_ n9_ n10_
      (try clear hb)
      (try clear hb2)
      (try clear hk)
      (try clear hi)
      (try clear ho0)
      (try clear ho1)
      obtain ⟨Ao74, co74, eo74⟩ := Kd.R_slice HO434.out
      (first | subst eo74 | (injection eo74 with f1_ f2_ f3_; have f4_ := f1_.symm; have f5_ := f3_.symm; clear f1_ f2_ f3_; subst f4_; subst f5_))
      obtain ⟨Ao75, co75, eo75⟩ := Kd.R_slice HO437.out
      (first | subst eo75 | (injection eo75 with f1_ f2_ f3_; have f4_ := f1_.symm; have f5_ := f3_.symm; clear f1_ f2_ f3_; subst f4_; subst f5_))
      refine hK.out _ _ ⟨(blk_cell BK427.out 0).trans rfl, (blk_cell BK427.out 1).trans rfl, (blk_cell BK409.out 0).trans rfl, (blk_cell BK409.out 1).trans rfl⟩ (fun hHeld => ?_)
      clear hK K
      refine norm_ (a' := ?_) ?_ ?_
      rotate_left
      ·
       show Act.put _ (some 35) _ = _
       simp only [Act.put, List.setIfInBounds_toArray, List.set_cons_zero, List.set_cons_succ, i64_w, i32_w]
       rfl
      refine one_ (i := 3) (N := some 36) #[true, true, true, true, false] rfl rfl (by kernel_rfl) (by decide) (fun K hK => ?_)
      refine goes_ Tryd.func21 (by kernel_rfl) rfl #[.agg #[.slice Ao64 t421.length co64, .slice Ao67 t424.length co67], .agg #[.slice Ao74 t432.length co74, .slice Ao75 t435.length co75]] (by rfl) rfl rfl (by (try simp only [List.map_toArray, List.map_cons, List.map_nil]); first | done | rfl | (simp only [List.length_drop, List.length_take]; rfl)) ?_
      with_reducible refine (laws_eqShape.calls k _ _ t421 _ _ t424 _ _ t432 _ _ t435 true _ ?side1 ?side2 ?side3 ?side4 ?side5 ?side6 ?side7 ?side8 A18.out).mono ?_
      (case side1 => repeat (first | exact (Kd.R_reads' HO423.out).2.2 | (with_reducible refine Kd.C_alloc ?_ _) | (with_reducible refine Kd.C_drewN ?_ _) | (with_reducible refine Kd.C_drew ?_)))
      (case side2 => exact (Kd.R_reads' HO423.out).2.1)
      (case side3 => repeat (first | exact (Kd.R_reads' HO426.out).2.2 | (with_reducible refine Kd.C_alloc ?_ _) | (with_reducible refine Kd.C_drewN ?_ _) | (with_reducible refine Kd.C_drew ?_)))
      (case side4 => exact (Kd.R_reads' HO426.out).2.1)
      (case side5 => repeat (first | exact (Kd.R_reads' HO434.out).2.2 | (with_reducible refine Kd.C_alloc ?_ _) | (with_reducible refine Kd.C_drewN ?_ _) | (with_reducible refine Kd.C_drew ?_)))
      (case side6 => exact (Kd.R_reads' HO434.out).2.1)
      (case side7 => repeat (first | exact (Kd.R_reads' HO437.out).2.2 | (with_reducible refine Kd.C_alloc ?_ _) | (with_reducible refine Kd.C_drewN ?_ _) | (with_reducible refine Kd.C_drew ?_)))
      (case side8 => exact (Kd.R_reads' HO437.out).2.1)
      rintro e w76 ⟨rfl, hb⟩
      refine ⟨_, rfl, ?_⟩
      have n0_ := Aside0.mk (Kd.R_below (by (with_reducible repeat (first | apply Kd.R_alloc | apply Kd.R_drewN | apply Kd.R_drew)); exact HO413.out) hb)
      have n1_ := Aside0.mk (Kd.R_below (by (with_reducible repeat (first | apply Kd.R_alloc | apply Kd.R_drewN | apply Kd.R_drew)); exact HO416.out) hb)
      have n2_ := Aside0.mk (Kd.R_below (by (with_reducible repeat (first | apply Kd.R_alloc | apply Kd.R_drewN | apply Kd.R_drew)); exact HO419.out) hb)
      have n3_ := Aside0.mk (Kd.R_below (by (with_reducible repeat (first | apply Kd.R_alloc | apply Kd.R_drewN | apply Kd.R_drew)); exact HO423.out) hb)
      have n4_ := Aside0.mk (Kd.R_below (by (with_reducible repeat (first | apply Kd.R_alloc | apply Kd.R_drewN | apply Kd.R_drew)); exact HO426.out) hb)
      have n5_ := Aside0.mk (Kd.R_below (by (with_reducible repeat (first | apply Kd.R_alloc | apply Kd.R_drewN | apply Kd.R_drew)); exact HO430.out) hb)
      have n6_ := Aside0.mk (Kd.R_below (by (with_reducible repeat (first | apply Kd.R_alloc | apply Kd.R_drewN | apply Kd.R_drew)); exact HO434.out) hb)
      have n7_ := Aside0.mk (Kd.R_below (by (with_reducible repeat (first | apply Kd.R_alloc | apply Kd.R_drewN | apply Kd.R_drew)); exact HO437.out) hb)
      have n8_ := Aside0.mk (blk_below (g := gb409) (o := .cells #[.slice A0_0 l0_0.length c0_0, .slice A0_1 l0_1.length c0_1] 35 (0, 0)) (by (with_reducible repeat (first | refine blk_drewN ?_ _ | refine blk_drew ?_ | refine blk_alloc ?_ _)); exact BK409.out) hb)
      have n9_ := Aside0.mk (blk_below (g := gb427) (o := .cells #[.slice Ao64 t421.length co64, .slice Ao67 t424.length co67] 38 (0, 0)) (by (with_reducible repeat (first | refine blk_drewN ?_ _ | refine blk_drew ?_ | refine blk_alloc ?_ _)); exact BK427.out) hb)
      have n10_ := Aside0.mk (below_step (by repeat (first | (with_reducible first | exact HB.out | apply below_alloc | apply pw_below_drewN | apply below_drew1 | refine below_set ?_ GE409.out | refine below_set ?_ GE427.out) | exact HB.out)) hb)
      clear HO413
      clear HO416
      clear HO419
      clear HO423
      clear HO426
      clear HO430
      clear HO434
      clear HO437
      clear BK409
      clear BK427
      clear HB
      have HO413 := n0_
      have HO416 := n1_
      have HO419 := n2_
      have HO423 := n3_
      have HO426 := n4_
      have HO430 := n5_
      have HO434 := n6_
      have HO437 := n7_
      have BK409 := n8_
      have BK427 := n9_
      have HB := n10_
      clear n0_ n1_ n2_ n3_ n4_ n5_ n6_ n7_ n8_ n9_ n10_
      (try clear hb)
      (try clear hb2)
      (try clear hk)
      (try clear hi)
      refine hK.out _ _ ⟨(blk_cell BK427.out 0).trans rfl, (blk_cell BK427.out 1).trans rfl, (blk_cell BK409.out 0).trans rfl, (blk_cell BK409.out 1).trans rfl⟩ (fun hHeld => ?_)
      clear hK K
      refine norm_ (a' := ?_) ?_ ?_
      rotate_left
      ·
       show Act.put _ (some 36) _ = _
       simp only [Act.put, List.setIfInBounds_toArray, List.set_cons_zero, List.set_cons_succ, i64_w, i32_w]
       rfl
      refine pure_ (i := 4) (N := some 37) (v := ?_) (a' := ?_) #[true, true, true, true, true] rfl rfl (by kernel_rfl) (fun _ _ _ h => h) (Or.inl ⟨by rfl, ?_⟩) ?_ ?_
      rotate_left
      ·
       intro w'
       go_simp
       with_reducible rfl
      rotate_left
      ·
       simp only [Act.put, List.setIfInBounds_toArray, List.set_cons_zero, List.set_cons_succ, i64_w, i32_w]
       rfl
      refine done_ (by kernel_rfl) ?_
      try go_wp2_with (first | ((with_reducible refine gate_callee (f := 8) rfl ?_); refine goesL_ (some 40) rfl rfl Tryd.func8 (by kernel_rfl) rfl #[.slice A1 l1.length c1] rfl (by (try simp only [List.map_toArray, List.map_cons, List.map_nil]); first | done | rfl | (simp only [List.length_drop, List.length_take]; rfl)) ?_; (with_reducible refine (laws_toIntS.calls k _ _ l1 t439 _ ?side1 ?side2 A20.out).mono ?_); (case side1 => repeat (first | exact (Kd.C_below HR1.out HB.out) | (with_reducible refine Kd.C_alloc ?_ _) | (with_reducible refine Kd.C_drewN ?_ _) | (with_reducible refine Kd.C_drew ?_))); (case side2 => exact HC1.out); rintro e w77 ⟨v440, rfl, ho0, hb⟩; refine ⟨_, rfl, ?_⟩; have n0_ := Aside0.mk (Kd.R_elder' (by (with_reducible repeat (first | apply Kd.R_alloc | apply Kd.R_drewN | apply Kd.R_drew)); exact HO413.out) (Kd.R_base ho0) hb); have n1_ := Aside0.mk (Kd.R_elder' (by (with_reducible repeat (first | apply Kd.R_alloc | apply Kd.R_drewN | apply Kd.R_drew)); exact HO416.out) (Kd.R_base ho0) hb); have n2_ := Aside0.mk (Kd.R_elder' (by (with_reducible repeat (first | apply Kd.R_alloc | apply Kd.R_drewN | apply Kd.R_drew)); exact HO419.out) (Kd.R_base ho0) hb); have n3_ := Aside0.mk (Kd.R_elder' (by (with_reducible repeat (first | apply Kd.R_alloc | apply Kd.R_drewN | apply Kd.R_drew)); exact HO423.out) (Kd.R_base ho0) hb); have n4_ := Aside0.mk (Kd.R_elder' (by (with_reducible repeat (first | apply Kd.R_alloc | apply Kd.R_drewN | apply Kd.R_drew)); exact HO426.out) (Kd.R_base ho0) hb); have n5_ := Aside0.mk (Kd.R_elder' (by (with_reducible repeat (first | apply Kd.R_alloc | apply Kd.R_drewN | apply Kd.R_drew)); exact HO430.out) (Kd.R_base ho0) hb); have n6_ := Aside0.mk (Kd.R_elder' (by (with_reducible repeat (first | apply Kd.R_alloc | apply Kd.R_drewN | apply Kd.R_drew)); exact HO434.out) (Kd.R_base ho0) hb); have n7_ := Aside0.mk (Kd.R_elder' (by (with_reducible repeat (first | apply Kd.R_alloc | apply Kd.R_drewN | apply Kd.R_drew)); exact HO437.out) (Kd.R_base ho0) hb); have n8_ := Aside0.mk (Kd.R_lower (Kd.R_new' (Kd.R_new' (Kd.R_new' (Kd.R_new' (Kd.R_new' (Kd.R_new' (Kd.R_new' (Kd.R_new' ho0 (Kd.R_lt (by (with_reducible repeat (first | apply Kd.R_alloc | apply Kd.R_drewN | apply Kd.R_drew)); exact HO413.out))) (Kd.R_lt (by (with_reducible repeat (first | apply Kd.R_alloc | apply Kd.R_drewN | apply Kd.R_drew)); exact HO416.out))) (Kd.R_lt (by (with_reducible repeat (first | apply Kd.R_alloc | apply Kd.R_drewN | apply Kd.R_drew)); exact HO419.out))) (Kd.R_lt (by (with_reducible repeat (first | apply Kd.R_alloc | apply Kd.R_drewN | apply Kd.R_drew)); exact HO423.out))) (Kd.R_lt (by (with_reducible repeat (first | apply Kd.R_alloc | apply Kd.R_drewN | apply Kd.R_drew)); exact HO426.out))) (Kd.R_lt (by (with_reducible repeat (first | apply Kd.R_alloc | apply Kd.R_drewN | apply Kd.R_drew)); exact HO430.out))) (Kd.R_lt (by (with_reducible repeat (first | apply Kd.R_alloc | apply Kd.R_drewN | apply Kd.R_drew)); exact HO434.out))) (Kd.R_lt (by (with_reducible repeat (first | apply Kd.R_alloc | apply Kd.R_drewN | apply Kd.R_drew)); exact HO437.out))) (below_size (by repeat (first | (with_reducible first | exact HB.out | apply below_alloc | apply pw_below_drewN | apply below_drew1 | refine below_set ?_ GE409.out | refine below_set ?_ GE427.out) | exact HB.out)))); have n9_ := Aside0.mk (blk_below (g := gb409) (o := .cells #[.slice A0_0 l0_0.length c0_0, .slice A0_1 l0_1.length c0_1] 35 (0, 0)) (by (with_reducible repeat (first | refine blk_drewN ?_ _ | refine blk_drew ?_ | refine blk_alloc ?_ _)); exact BK409.out) hb); have n10_ := Aside0.mk (blk_below (g := gb427) (o := .cells #[.slice Ao64 t421.length co64, .slice Ao67 t424.length co67] 38 (0, 0)) (by (with_reducible repeat (first | refine blk_drewN ?_ _ | refine blk_drew ?_ | refine blk_alloc ?_ _)); exact BK427.out) hb); have n11_ := Aside0.mk (below_step (by repeat (first | (with_reducible first | exact HB.out | apply below_alloc | apply pw_below_drewN | apply below_drew1 | refine below_set ?_ GE409.out | refine below_set ?_ GE427.out) | exact HB.out)) hb); clear HO413; clear HO416; clear HO419; clear HO423; clear HO426; clear HO430; clear HO434; clear HO437; clear BK409; clear BK427; clear HB; have HO413 := n0_; have HO416 := n1_; have HO419 := n2_; have HO423 := n3_; have HO426 := n4_; have HO430 := n5_; have HO434 := n6_; have HO437 := n7_; have HO441 := n8_; have BK409 := n9_; have BK427 := n10_; have HB := n11_; clear n0_ n1_ n2_ n3_ n4_ n5_ n6_ n7_ n8_ n9_ n10_ n11_; (try clear hb); (try clear hb2); (try clear hk); (try clear hi); (try clear ho0); obtain ⟨Ao78, co78, eo78⟩ := Kd.R_slice HO441.out; subst eo78) | ((with_reducible refine gate_callee (f := 11) rfl ?_); refine goesL_ (some 41) rfl rfl Tryd.func11 (by kernel_rfl) rfl #[.slice Ao70 t428.length co70, .slice Ao78 t439.length co78] rfl (by (try simp only [List.map_toArray, List.map_cons, List.map_nil]); first | done | rfl | (simp only [List.length_drop, List.length_take]; rfl)) ?_; (with_reducible refine (laws_eqIntS.calls k _ _ t428 _ _ t439 false _ ?side1 ?side2 ?side3 ?side4 A21.out).mono ?_); (case side1 => repeat (first | exact (Kd.R_reads' HO430.out).2.2 | (with_reducible refine Kd.C_alloc ?_ _) | (with_reducible refine Kd.C_drewN ?_ _) | (with_reducible refine Kd.C_drew ?_))); (case side2 => exact (Kd.R_reads' HO430.out).2.1); (case side3 => repeat (first | exact (Kd.R_reads' HO441.out).2.2 | (with_reducible refine Kd.C_alloc ?_ _) | (with_reducible refine Kd.C_drewN ?_ _) | (with_reducible refine Kd.C_drew ?_))); (case side4 => exact (Kd.R_reads' HO441.out).2.1); rintro e w' ⟨rfl, ⟨nd, rfl⟩⟩; refine ⟨_, rfl, ?_⟩))
      go_ret
      exact ⟨by first | rfl | (simp [errW_none, errW_some] <;> rfl) | (simp [*, errW_none, errW_some] <;> rfl), by repeat (first | (with_reducible first | exact HB.out | apply below_alloc | apply pw_below_drewN | apply below_drew1 | refine below_set ?_ GE409.out | refine below_set ?_ GE427.out) | exact HB.out)⟩
    ·
     replace c19 := Bool.eq_false_iff.mpr c19
     subst c19
     have H1 : (some false) = some r := by rw [if_neg (show ¬ (false = true) by decide)] at H; exact H
     clear H
     have H := H1
     clear H1
     obtain rfl := Option.some.inj H
     go_enter Tryd.func6, Tryd.ntmps6
     try go_wp2_with (first | ((with_reducible refine gate_dst (N := 2) rfl ?_); refine box_event ?hg (N := 2) ?hd (cs := #[.slice A0_0 l0_0.length c0_0, .slice A0_1 l0_1.length c0_1]) (t := 35) ?hr ?_; (case hd => rfl); (case hg => rfl); (case hr => first | (go_simp; done) | (go_simp; rfl)); intro gb409 hg w79 hbox hb; have n0_ := Aside0.mk (below_step (by repeat (first | (with_reducible first | exact HB.out | apply below_alloc | apply pw_below_drewN | apply below_drew1) | exact HB.out)) hb); have n1_ := Aside0.mk (hbox); have n2_ := Aside0.mk ((by rw [hg]; exact (below_size (by repeat (first | (with_reducible first | exact HB.out | apply below_alloc | apply pw_below_drewN | apply below_drew1) | exact HB.out))) : w.heap.size ≤ gb409)); have n3_ := Aside0.mk ((by rw [hg]; exact (below_size (by repeat (first | (with_reducible first | exact HB.out | apply below_alloc | apply pw_below_drewN | apply below_drew1) | exact HB.out))) : w.heap.size ≤ gb409)); clear HB; have HB := n0_; have BK409 := n1_; have GW409 := n2_; have GE409 := n3_; clear n0_ n1_ n2_ n3_; clear hb hbox hg; have hcz80_0 : w79.cell? ⟨gb409, 0, none⟩ = some (.slice A0_0 l0_0.length c0_0) := (blk_cell BK409.out 0).trans rfl; have hcz80_1 : w79.cell? ⟨gb409, 1, none⟩ = some (.slice A0_1 l0_1.length c0_1) := (blk_cell BK409.out 1).trans rfl; have hfz80_0 := blk_frozen BK409.out 0; have hfz80_1 := blk_frozen BK409.out 1) | ((with_reducible refine gate_callee (f := 17) rfl ?_); refine goesL_ (some 15) rfl rfl Tryd.func17 (by kernel_rfl) rfl #[.agg #[.slice A0_0 l0_0.length c0_0, .slice A0_1 l0_1.length c0_1], .int .i64 1048576] rfl (by (try simp only [List.map_toArray, List.map_cons, List.map_nil]); first | done | rfl | (simp only [List.length_drop, List.length_take]; rfl)) ?_; (with_reducible refine (laws_szShape.calls _ _ l0_0 _ _ l0_1 1048576 t410 _ ?side1 ?side2 ?side3 ?side4 A5.out).mono ?_); (case side1 => repeat (first | exact (Kd.C_below HR0_0.out HB.out) | (with_reducible refine Kd.C_alloc ?_ _) | (with_reducible refine Kd.C_drewN ?_ _) | (with_reducible refine Kd.C_drew ?_))); (case side2 => exact HC0_0.out); (case side3 => repeat (first | exact (Kd.C_below HR0_1.out HB.out) | (with_reducible refine Kd.C_alloc ?_ _) | (with_reducible refine Kd.C_drewN ?_ _) | (with_reducible refine Kd.C_drew ?_))); (case side4 => exact HC0_1.out); rintro e w81 ⟨rfl, hb⟩; refine ⟨_, rfl, ?_⟩; have n0_ := Aside0.mk (blk_below (g := gb409) (o := .cells #[.slice A0_0 l0_0.length c0_0, .slice A0_1 l0_1.length c0_1] 35 (0, 0)) (by (with_reducible repeat (first | refine blk_drewN ?_ _ | refine blk_drew ?_ | refine blk_alloc ?_ _)); exact BK409.out) hb); have n1_ := Aside0.mk (below_step (by repeat (first | (with_reducible first | exact HB.out | apply below_alloc | apply pw_below_drewN | apply below_drew1 | refine below_set ?_ GE409.out) | exact HB.out)) hb); clear BK409; clear HB; have BK409 := n0_; have HB := n1_; clear n0_ n1_; (try clear hb); (try clear hb2); (try clear hk); (try clear hi); have hcz82_0 : w81.cell? ⟨gb409, 0, none⟩ = some (.slice A0_0 l0_0.length c0_0) := (blk_cell BK409.out 0).trans rfl; have hcz82_1 : w81.cell? ⟨gb409, 1, none⟩ = some (.slice A0_1 l0_1.length c0_1) := (blk_cell BK409.out 1).trans rfl; have hfz82_0 := blk_frozen BK409.out 0; have hfz82_1 := blk_frozen BK409.out 1) | ((with_reducible refine gate_callee (f := 19) rfl ?_); refine goesL_ (some 19) rfl rfl Tryd.func19 (by kernel_rfl) rfl #[.agg #[.slice A0_0 l0_0.length c0_0, .slice A0_1 l0_1.length c0_1]] rfl (by (try simp only [List.map_toArray, List.map_cons, List.map_nil]); first | done | rfl | (simp only [List.length_drop, List.length_take]; rfl)) ?_; (with_reducible refine (laws_toShape.calls k _ _ l0_0 _ _ l0_1 t411 t414 _ ?side1 ?side2 ?side3 ?side4 A10.out).mono ?_); (case side1 => repeat (first | exact (Kd.C_below HR0_0.out HB.out) | (with_reducible refine Kd.C_alloc ?_ _) | (with_reducible refine Kd.C_drewN ?_ _) | (with_reducible refine Kd.C_drew ?_))); (case side2 => exact HC0_0.out); (case side3 => repeat (first | exact (Kd.C_below HR0_1.out HB.out) | (with_reducible refine Kd.C_alloc ?_ _) | (with_reducible refine Kd.C_drewN ?_ _) | (with_reducible refine Kd.C_drew ?_))); (case side4 => exact HC0_1.out); rintro e w83 ⟨v412, v415, rfl, ho0, ho1, hb⟩; refine ⟨_, rfl, ?_⟩; have n0_ := Aside0.mk (Kd.R_lower ho0 (below_size (by repeat (first | (with_reducible first | exact HB.out | apply below_alloc | apply pw_below_drewN | apply below_drew1 | refine below_set ?_ GE409.out) | exact HB.out)))); have n1_ := Aside0.mk (Kd.R_lower ho1 (below_size (by repeat (first | (with_reducible first | exact HB.out | apply below_alloc | apply pw_below_drewN | apply below_drew1 | refine below_set ?_ GE409.out) | exact HB.out)))); have n2_ := Aside0.mk (blk_below (g := gb409) (o := .cells #[.slice A0_0 l0_0.length c0_0, .slice A0_1 l0_1.length c0_1] 35 (0, 0)) (by (with_reducible repeat (first | refine blk_drewN ?_ _ | refine blk_drew ?_ | refine blk_alloc ?_ _)); exact BK409.out) hb); have n3_ := Aside0.mk (below_step (by repeat (first | (with_reducible first | exact HB.out | apply below_alloc | apply pw_below_drewN | apply below_drew1 | refine below_set ?_ GE409.out) | exact HB.out)) hb); clear BK409; clear HB; have HO413 := n0_; have HO416 := n1_; have BK409 := n2_; have HB := n3_; clear n0_ n1_ n2_ n3_; (try clear hb); (try clear hb2); (try clear hk); (try clear hi); (try clear ho0); (try clear ho1)) | ((with_reducible refine gate_callee (f := 8) rfl ?_); refine goesL_ (some 21) rfl rfl Tryd.func8 (by kernel_rfl) rfl #[.slice A1 l1.length c1] rfl (by (try simp only [List.map_toArray, List.map_cons, List.map_nil]); first | done | rfl | (simp only [List.length_drop, List.length_take]; rfl)) ?_; (with_reducible refine (laws_toIntS.calls k _ _ l1 t417 _ ?side1 ?side2 A11.out).mono ?_); (case side1 => repeat (first | exact (Kd.C_below HR1.out HB.out) | (with_reducible refine Kd.C_alloc ?_ _) | (with_reducible refine Kd.C_drewN ?_ _) | (with_reducible refine Kd.C_drew ?_))); (case side2 => exact HC1.out); rintro e w84 ⟨v418, rfl, ho0, hb⟩; refine ⟨_, rfl, ?_⟩; have n0_ := Aside0.mk (Kd.R_elder' (by (with_reducible repeat (first | apply Kd.R_alloc | apply Kd.R_drewN | apply Kd.R_drew)); exact HO413.out) (Kd.R_base ho0) hb); have n1_ := Aside0.mk (Kd.R_elder' (by (with_reducible repeat (first | apply Kd.R_alloc | apply Kd.R_drewN | apply Kd.R_drew)); exact HO416.out) (Kd.R_base ho0) hb); have n2_ := Aside0.mk (Kd.R_lower (Kd.R_new' (Kd.R_new' ho0 (Kd.R_lt (by (with_reducible repeat (first | apply Kd.R_alloc | apply Kd.R_drewN | apply Kd.R_drew)); exact HO413.out))) (Kd.R_lt (by (with_reducible repeat (first | apply Kd.R_alloc | apply Kd.R_drewN | apply Kd.R_drew)); exact HO416.out))) (below_size (by repeat (first | (with_reducible first | exact HB.out | apply below_alloc | apply pw_below_drewN | apply below_drew1 | refine below_set ?_ GE409.out) | exact HB.out)))); have n3_ := Aside0.mk (blk_below (g := gb409) (o := .cells #[.slice A0_0 l0_0.length c0_0, .slice A0_1 l0_1.length c0_1] 35 (0, 0)) (by (with_reducible repeat (first | refine blk_drewN ?_ _ | refine blk_drew ?_ | refine blk_alloc ?_ _)); exact BK409.out) hb); have n4_ := Aside0.mk (below_step (by repeat (first | (with_reducible first | exact HB.out | apply below_alloc | apply pw_below_drewN | apply below_drew1 | refine below_set ?_ GE409.out) | exact HB.out)) hb); clear HO413; clear HO416; clear BK409; clear HB; have HO413 := n0_; have HO416 := n1_; have HO419 := n2_; have BK409 := n3_; have HB := n4_; clear n0_ n1_ n2_ n3_ n4_; (try clear hb); (try clear hb2); (try clear hk); (try clear hi); (try clear ho0); obtain ⟨Ao85, co85, eo85⟩ := Kd.R_slice HO413.out; subst eo85; obtain ⟨Ao86, co86, eo86⟩ := Kd.R_slice HO416.out; subst eo86; obtain ⟨Ao87, co87, eo87⟩ := Kd.R_slice HO419.out; subst eo87) | ((with_reducible refine gate_callee (f := 22) rfl ?_); refine goesL_ (some 22) rfl rfl Tryd.func22 (by kernel_rfl) rfl #[.agg #[.slice Ao85 t411.length co85, .slice Ao86 t414.length co86], .slice Ao87 t417.length co87] rfl (by (try simp only [List.map_toArray, List.map_cons, List.map_nil]); first | done | rfl | (simp only [List.length_drop, List.length_take]; rfl)) ?_; (with_reducible refine (spec_KostkaNumber.calls k _ _ t411 _ _ t414 _ _ t417 t420 _ ?side1 ?side2 ?side3 ?side4 ?side5 ?side6 A12.out).mono ?_); (case side1 => repeat (first | exact (Kd.R_reads' HO413.out).2.2 | (with_reducible refine Kd.C_alloc ?_ _) | (with_reducible refine Kd.C_drewN ?_ _) | (with_reducible refine Kd.C_drew ?_))); (case side2 => exact (Kd.R_reads' HO413.out).2.1); (case side3 => repeat (first | exact (Kd.R_reads' HO416.out).2.2 | (with_reducible refine Kd.C_alloc ?_ _) | (with_reducible refine Kd.C_drewN ?_ _) | (with_reducible refine Kd.C_drew ?_))); (case side4 => exact (Kd.R_reads' HO416.out).2.1); (case side5 => repeat (first | exact (Kd.R_reads' HO419.out).2.2 | (with_reducible refine Kd.C_alloc ?_ _) | (with_reducible refine Kd.C_drewN ?_ _) | (with_reducible refine Kd.C_drew ?_))); (case side6 => exact (Kd.R_reads' HO419.out).2.1); rintro e w88 ⟨rfl, hb⟩; refine ⟨_, rfl, ?_⟩; have n0_ := Aside0.mk (Kd.R_below (by (with_reducible repeat (first | apply Kd.R_alloc | apply Kd.R_drewN | apply Kd.R_drew)); exact HO413.out) hb); have n1_ := Aside0.mk (Kd.R_below (by (with_reducible repeat (first | apply Kd.R_alloc | apply Kd.R_drewN | apply Kd.R_drew)); exact HO416.out) hb); have n2_ := Aside0.mk (Kd.R_below (by (with_reducible repeat (first | apply Kd.R_alloc | apply Kd.R_drewN | apply Kd.R_drew)); exact HO419.out) hb); have n3_ := Aside0.mk (blk_below (g := gb409) (o := .cells #[.slice A0_0 l0_0.length c0_0, .slice A0_1 l0_1.length c0_1] 35 (0, 0)) (by (with_reducible repeat (first | refine blk_drewN ?_ _ | refine blk_drew ?_ | refine blk_alloc ?_ _)); exact BK409.out) hb); have n4_ := Aside0.mk (below_step (by repeat (first | (with_reducible first | exact HB.out | apply below_alloc | apply pw_below_drewN | apply below_drew1 | refine below_set ?_ GE409.out) | exact HB.out)) hb); clear HO413; clear HO416; clear HO419; clear BK409; clear HB; have HO413 := n0_; have HO416 := n1_; have HO419 := n2_; have BK409 := n3_; have HB := n4_; clear n0_ n1_ n2_ n3_ n4_; (try clear hb); (try clear hb2); (try clear hk); (try clear hi); have hcz89_0 : w88.cell? ⟨gb409, 0, none⟩ = some (.slice A0_0 l0_0.length c0_0) := (blk_cell BK409.out 0).trans rfl; have hcz89_1 : w88.cell? ⟨gb409, 1, none⟩ = some (.slice A0_1 l0_1.length c0_1) := (blk_cell BK409.out 1).trans rfl; have hfz89_0 := blk_frozen BK409.out 0; have hfz89_1 := blk_frozen BK409.out 1) | ((with_reducible refine gate_callee (f := 19) rfl ?_); refine goesL_ (some 24) rfl rfl Tryd.func19 (by kernel_rfl) rfl #[.agg #[.slice A0_0 l0_0.length c0_0, .slice A0_1 l0_1.length c0_1]] rfl (by (try simp only [List.map_toArray, List.map_cons, List.map_nil]); first | done | rfl | (simp only [List.length_drop, List.length_take]; rfl)) ?_; (with_reducible refine (laws_toShape.calls k _ _ l0_0 _ _ l0_1 t421 t424 _ ?side1 ?side2 ?side3 ?side4 A13.out).mono ?_); (case side1 => repeat (first | exact (Kd.C_below HR0_0.out HB.out) | (with_reducible refine Kd.C_alloc ?_ _) | (with_reducible refine Kd.C_drewN ?_ _) | (with_reducible refine Kd.C_drew ?_))); (case side2 => exact HC0_0.out); (case side3 => repeat (first | exact (Kd.C_below HR0_1.out HB.out) | (with_reducible refine Kd.C_alloc ?_ _) | (with_reducible refine Kd.C_drewN ?_ _) | (with_reducible refine Kd.C_drew ?_))); (case side4 => exact HC0_1.out); rintro e w90 ⟨v422, v425, rfl, ho0, ho1, hb⟩; refine ⟨_, rfl, ?_⟩; have n0_ := Aside0.mk (Kd.R_mono (Kd.R_told (Kd.R_told (Kd.R_old (by (with_reducible repeat (first | apply Kd.R_alloc | apply Kd.R_drewN | apply Kd.R_drew)); exact HO413.out) hb) (Kd.R_base ho0)) (Kd.R_base ho1)) (fun _ h_ => h_.1)); have n1_ := Aside0.mk (Kd.R_mono (Kd.R_told (Kd.R_told (Kd.R_old (by (with_reducible repeat (first | apply Kd.R_alloc | apply Kd.R_drewN | apply Kd.R_drew)); exact HO416.out) hb) (Kd.R_base ho0)) (Kd.R_base ho1)) (fun _ h_ => h_.1)); have n2_ := Aside0.mk (Kd.R_mono (Kd.R_told (Kd.R_told (Kd.R_old (by (with_reducible repeat (first | apply Kd.R_alloc | apply Kd.R_drewN | apply Kd.R_drew)); exact HO419.out) hb) (Kd.R_base ho0)) (Kd.R_base ho1)) (fun _ h_ => h_.1)); have n3_ := Aside0.mk (Kd.R_lower (Kd.R_new' (Kd.R_new' (Kd.R_new' ho0 (Kd.R_lt (by (with_reducible repeat (first | apply Kd.R_alloc | apply Kd.R_drewN | apply Kd.R_drew)); exact HO413.out))) (Kd.R_lt (by (with_reducible repeat (first | apply Kd.R_alloc | apply Kd.R_drewN | apply Kd.R_drew)); exact HO416.out))) (Kd.R_lt (by (with_reducible repeat (first | apply Kd.R_alloc | apply Kd.R_drewN | apply Kd.R_drew)); exact HO419.out))) (below_size (by repeat (first | (with_reducible first | exact HB.out | apply below_alloc | apply pw_below_drewN | apply below_drew1 | refine below_set ?_ GE409.out) | exact HB.out)))); have n4_ := Aside0.mk (Kd.R_lower (Kd.R_new' (Kd.R_new' (Kd.R_new' ho1 (Kd.R_lt (by (with_reducible repeat (first | apply Kd.R_alloc | apply Kd.R_drewN | apply Kd.R_drew)); exact HO413.out))) (Kd.R_lt (by (with_reducible repeat (first | apply Kd.R_alloc | apply Kd.R_drewN | apply Kd.R_drew)); exact HO416.out))) (Kd.R_lt (by (with_reducible repeat (first | apply Kd.R_alloc | apply Kd.R_drewN | apply Kd.R_drew)); exact HO419.out))) (below_size (by repeat (first | (with_reducible first | exact HB.out | apply below_alloc | apply pw_below_drewN | apply below_drew1 | refine below_set ?_ GE409.out) | exact HB.out)))); have n5_ := Aside0.mk (blk_below (g := gb409) (o := .cells #[.slice A0_0 l0_0.length c0_0, .slice A0_1 l0_1.length c0_1] 35 (0, 0)) (by (with_reducible repeat (first | refine blk_drewN ?_ _ | refine blk_drew ?_ | refine blk_alloc ?_ _)); exact BK409.out) hb); have n6_ := Aside0.mk (below_step (by repeat (first | (with_reducible first | exact HB.out | apply below_alloc | apply pw_below_drewN | apply below_drew1 | refine below_set ?_ GE409.out) | exact HB.out)) hb); clear HO413; clear HO416; clear HO419; clear BK409; clear HB; have HO413 := n0_; have HO416 := n1_; have HO419 := n2_; have HO423 := n3_; have HO426 := n4_; have BK409 := n5_; have HB := n6_; clear n0_ n1_ n2_ n3_ n4_ n5_ n6_; (try clear hb); (try clear hb2); (try clear hk); (try clear hi); (try clear ho0); (try clear ho1)) | ((with_reducible refine gate_dst (N := 7) rfl ?_); refine box_event ?hg (N := 7) ?hd (cs := #[.slice none 0 0, .slice none 0 0]) (t := 38) ?hr ?_; (case hd => rfl); (case hg => rfl); (case hr => first | (go_simp; done) | (go_simp; rfl)); intro gb427 hg w91 hbox hb; have n0_ := Aside0.mk (Kd.R_below (by (with_reducible repeat (first | apply Kd.R_alloc | apply Kd.R_drewN | apply Kd.R_drew)); exact HO413.out) hb); have n1_ := Aside0.mk (Kd.R_below (by (with_reducible repeat (first | apply Kd.R_alloc | apply Kd.R_drewN | apply Kd.R_drew)); exact HO416.out) hb); have n2_ := Aside0.mk (Kd.R_below (by (with_reducible repeat (first | apply Kd.R_alloc | apply Kd.R_drewN | apply Kd.R_drew)); exact HO419.out) hb); have n3_ := Aside0.mk (Kd.R_below (by (with_reducible repeat (first | apply Kd.R_alloc | apply Kd.R_drewN | apply Kd.R_drew)); exact HO423.out) hb); have n4_ := Aside0.mk (Kd.R_below (by (with_reducible repeat (first | apply Kd.R_alloc | apply Kd.R_drewN | apply Kd.R_drew)); exact HO426.out) hb); have n5_ := Aside0.mk (blk_below (g := gb409) (o := .cells #[.slice A0_0 l0_0.length c0_0, .slice A0_1 l0_1.length c0_1] 35 (0, 0)) (by (with_reducible repeat (first | refine blk_drewN ?_ _ | refine blk_drew ?_ | refine blk_alloc ?_ _)); exact BK409.out) hb); have n6_ := Aside0.mk (below_step (by repeat (first | (with_reducible first | exact HB.out | apply below_alloc | apply pw_below_drewN | apply below_drew1 | refine below_set ?_ GE409.out) | exact HB.out)) hb); have n7_ := Aside0.mk (hbox); have n8_ := Aside0.mk ((by rw [hg]; exact (below_size (by repeat (first | (with_reducible first | exact HB.out | apply below_alloc | apply pw_below_drewN | apply below_drew1 | refine below_set ?_ GE409.out) | exact HB.out))) : w.heap.size ≤ gb427)); have n9_ := Aside0.mk ((by rw [hg]; exact (below_size (by repeat (first | (with_reducible first | exact HB.out | apply below_alloc | apply pw_below_drewN | apply below_drew1 | refine below_set ?_ GE409.out) | exact HB.out))) : w.heap.size ≤ gb427)); have n10_ := Aside0.mk ((by rw [hg]; exact Nat.ne_of_lt (blk_lt (g := gb409) (o := .cells #[.slice A0_0 l0_0.length c0_0, .slice A0_1 l0_1.length c0_1] 35 (0, 0)) (by (with_reducible repeat (first | refine blk_drewN ?_ _ | refine blk_drew ?_ | refine blk_alloc ?_ _)); exact BK409.out)) : gb409 ≠ gb427)); have n11_ := Aside0.mk ((by rw [hg]; exact Nat.ne_of_gt (blk_lt (g := gb409) (o := .cells #[.slice A0_0 l0_0.length c0_0, .slice A0_1 l0_1.length c0_1] 35 (0, 0)) (by (with_reducible repeat (first | refine blk_drewN ?_ _ | refine blk_drew ?_ | refine blk_alloc ?_ _)); exact BK409.out)) : gb427 ≠ gb409)); clear HO413; clear HO416; clear HO419; clear HO423; clear HO426; clear BK409; clear HB; have HO413 := n0_; have HO416 := n1_; have HO419 := n2_; have HO423 := n3_; have HO426 := n4_; have BK409 := n5_; have HB := n6_; have BK427 := n7_; have GW427 := n8_; have GE427 := n9_; have NB409_427 := n10_; have NB427_409 := n11_; clear n0_ n1_ n2_ n3_ n4_ n5_ n6_ n7_ n8_ n9_ n10_ n11_; clear hb hbox hg; obtain ⟨Ao92, co92, eo92⟩ := Kd.R_slice HO423.out; subst eo92; have hnb93 := NB427_409.out; have hnc93 := NB409_427.out; have hcz94_0 : w91.cell? ⟨gb427, 0, none⟩ = some (.slice none 0 0) := (blk_cell BK427.out 0).trans rfl; have hcz94_1 : w91.cell? ⟨gb427, 1, none⟩ = some (.slice none 0 0) := (blk_cell BK427.out 1).trans rfl; have hfz94_0 := blk_frozen BK427.out 0; have hfz94_1 := blk_frozen BK427.out 1; obtain ⟨Ao95, co95, eo95⟩ := Kd.R_slice HO426.out; subst eo95) | ((with_reducible refine gate_callee (f := 8) rfl ?_); refine goesL_ (some 26) rfl rfl Tryd.func8 (by kernel_rfl) rfl #[.slice A1 l1.length c1] rfl (by (try simp only [List.map_toArray, List.map_cons, List.map_nil]); first | done | rfl | (simp only [List.length_drop, List.length_take]; rfl)) ?_; (with_reducible refine (laws_toIntS.calls k _ _ l1 t428 _ ?side1 ?side2 A14.out).mono ?_); (case side1 => exact Kd.C_below HR1.out (by repeat (first | (with_reducible first | exact HB.out | apply below_alloc | apply pw_below_drewN | apply below_drew1 | refine below_set ?_ GE409.out | refine below_set ?_ GE427.out) | exact HB.out))); (case side2 => exact HC1.out); rintro e w96 ⟨v429, rfl, ho0, hb⟩; refine ⟨_, rfl, ?_⟩; have n0_ := Aside0.mk (Kd.R_elder' (by (with_reducible repeat (first | apply Kd.R_alloc | apply Kd.R_drewN | apply Kd.R_drew)); exact (Kd.R_mono (Kd.R_far (p := ⟨gb427, 1, none⟩) (Kd.R_far (p := ⟨gb427, 0, none⟩) (Kd.R_types HO413.out BK427.out (by decide)) (fun _ hk => hk.2) (.slice Ao92 t421.length co92)) (fun _ hk => hk.2) (.slice Ao95 t424.length co95)) (fun _ h_ => h_.1))) (Kd.R_base ho0) hb); have n1_ := Aside0.mk (Kd.R_elder' (by (with_reducible repeat (first | apply Kd.R_alloc | apply Kd.R_drewN | apply Kd.R_drew)); exact (Kd.R_mono (Kd.R_far (p := ⟨gb427, 1, none⟩) (Kd.R_far (p := ⟨gb427, 0, none⟩) (Kd.R_types HO416.out BK427.out (by decide)) (fun _ hk => hk.2) (.slice Ao92 t421.length co92)) (fun _ hk => hk.2) (.slice Ao95 t424.length co95)) (fun _ h_ => h_.1))) (Kd.R_base ho0) hb); have n2_ := Aside0.mk (Kd.R_elder' (by (with_reducible repeat (first | apply Kd.R_alloc | apply Kd.R_drewN | apply Kd.R_drew)); exact (Kd.R_mono (Kd.R_far (p := ⟨gb427, 1, none⟩) (Kd.R_far (p := ⟨gb427, 0, none⟩) (Kd.R_types HO419.out BK427.out (by decide)) (fun _ hk => hk.2) (.slice Ao92 t421.length co92)) (fun _ hk => hk.2) (.slice Ao95 t424.length co95)) (fun _ h_ => h_.1))) (Kd.R_base ho0) hb); have n3_ := Aside0.mk (Kd.R_elder' (by (with_reducible repeat (first | apply Kd.R_alloc | apply Kd.R_drewN | apply Kd.R_drew)); exact (Kd.R_mono (Kd.R_far (p := ⟨gb427, 1, none⟩) (Kd.R_far (p := ⟨gb427, 0, none⟩) (Kd.R_types HO423.out BK427.out (by decide)) (fun _ hk => hk.2) (.slice Ao92 t421.length co92)) (fun _ hk => hk.2) (.slice Ao95 t424.length co95)) (fun _ h_ => h_.1))) (Kd.R_base ho0) hb); have n4_ := Aside0.mk (Kd.R_elder' (by (with_reducible repeat (first | apply Kd.R_alloc | apply Kd.R_drewN | apply Kd.R_drew)); exact (Kd.R_mono (Kd.R_far (p := ⟨gb427, 1, none⟩) (Kd.R_far (p := ⟨gb427, 0, none⟩) (Kd.R_types HO426.out BK427.out (by decide)) (fun _ hk => hk.2) (.slice Ao92 t421.length co92)) (fun _ hk => hk.2) (.slice Ao95 t424.length co95)) (fun _ h_ => h_.1))) (Kd.R_base ho0) hb); have n5_ := Aside0.mk (Kd.R_lower (Kd.R_new' (Kd.R_new' (Kd.R_new' (Kd.R_new' (Kd.R_new' ho0 (Kd.R_lt (by (with_reducible repeat (first | apply Kd.R_alloc | apply Kd.R_drewN | apply Kd.R_drew)); exact (Kd.R_mono (Kd.R_far (p := ⟨gb427, 1, none⟩) (Kd.R_far (p := ⟨gb427, 0, none⟩) (Kd.R_types HO413.out BK427.out (by decide)) (fun _ hk => hk.2) (.slice Ao92 t421.length co92)) (fun _ hk => hk.2) (.slice Ao95 t424.length co95)) (fun _ h_ => h_.1))))) (Kd.R_lt (by (with_reducible repeat (first | apply Kd.R_alloc | apply Kd.R_drewN | apply Kd.R_drew)); exact (Kd.R_mono (Kd.R_far (p := ⟨gb427, 1, none⟩) (Kd.R_far (p := ⟨gb427, 0, none⟩) (Kd.R_types HO416.out BK427.out (by decide)) (fun _ hk => hk.2) (.slice Ao92 t421.length co92)) (fun _ hk => hk.2) (.slice Ao95 t424.length co95)) (fun _ h_ => h_.1))))) (Kd.R_lt (by (with_reducible repeat (first | apply Kd.R_alloc | apply Kd.R_drewN | apply Kd.R_drew)); exact (Kd.R_mono (Kd.R_far (p := ⟨gb427, 1, none⟩) (Kd.R_far (p := ⟨gb427, 0, none⟩) (Kd.R_types HO419.out BK427.out (by decide)) (fun _ hk => hk.2) (.slice Ao92 t421.length co92)) (fun _ hk => hk.2) (.slice Ao95 t424.length co95)) (fun _ h_ => h_.1))))) (Kd.R_lt (by (with_reducible repeat (first | apply Kd.R_alloc | apply Kd.R_drewN | apply Kd.R_drew)); exact (Kd.R_mono (Kd.R_far (p := ⟨gb427, 1, none⟩) (Kd.R_far (p := ⟨gb427, 0, none⟩) (Kd.R_types HO423.out BK427.out (by decide)) (fun _ hk => hk.2) (.slice Ao92 t421.length co92)) (fun _ hk => hk.2) (.slice Ao95 t424.length co95)) (fun _ h_ => h_.1))))) (Kd.R_lt (by (with_reducible repeat (first | apply Kd.R_alloc | apply Kd.R_drewN | apply Kd.R_drew)); exact (Kd.R_mono (Kd.R_far (p := ⟨gb427, 1, none⟩) (Kd.R_far (p := ⟨gb427, 0, none⟩) (Kd.R_types HO426.out BK427.out (by decide)) (fun _ hk => hk.2) (.slice Ao92 t421.length co92)) (fun _ hk => hk.2) (.slice Ao95 t424.length co95)) (fun _ h_ => h_.1))))) (below_size (by repeat (first | (with_reducible first | exact HB.out | apply below_alloc | apply pw_below_drewN | apply below_drew1 | refine below_set ?_ GE409.out | refine below_set ?_ GE427.out) | exact HB.out)))); have n6_ := Aside0.mk (blk_below (g := gb409) (o := .cells #[.slice A0_0 l0_0.length c0_0, .slice A0_1 l0_1.length c0_1] 35 (0, 0)) (by (with_reducible repeat (first | refine blk_drewN ?_ _ | refine blk_drew ?_ | refine blk_alloc ?_ _)); refine blk_far ?_ NB409_427.out _; (with_reducible repeat (first | refine blk_drewN ?_ _ | refine blk_drew ?_ | refine blk_alloc ?_ _)); refine blk_far ?_ NB409_427.out _; (with_reducible repeat (first | refine blk_drewN ?_ _ | refine blk_drew ?_ | refine blk_alloc ?_ _)); exact BK409.out) hb); have n7_ := Aside0.mk (blk_below (g := gb427) (o := .cells #[.slice Ao92 t421.length co92, .slice Ao95 t424.length co95] 38 (0, 0)) (by (with_reducible repeat (first | refine blk_drewN ?_ _ | refine blk_drew ?_ | refine blk_alloc ?_ _)); refine blk_put (cs := #[.slice Ao92 t421.length co92, .slice none 0 0]) ?_ 1 _ rfl; (with_reducible repeat (first | refine blk_drewN ?_ _ | refine blk_drew ?_ | refine blk_alloc ?_ _)); refine blk_put (cs := #[.slice none 0 0, .slice none 0 0]) ?_ 0 _ rfl; (with_reducible repeat (first | refine blk_drewN ?_ _ | refine blk_drew ?_ | refine blk_alloc ?_ _)); exact BK427.out) hb); have n8_ := Aside0.mk (below_step (by repeat (first | (with_reducible first | exact HB.out | apply below_alloc | apply pw_below_drewN | apply below_drew1 | refine below_set ?_ GE409.out | refine below_set ?_ GE427.out) | exact HB.out)) hb); clear HO413; clear HO416; clear HO419; clear HO423; clear HO426; clear BK409; clear BK427; clear HB; have HO413 := n0_; have HO416 := n1_; have HO419 := n2_; have HO423 := n3_; have HO426 := n4_; have HO430 := n5_; have BK409 := n6_; have BK427 := n7_; have HB := n8_; clear n0_ n1_ n2_ n3_ n4_ n5_ n6_ n7_ n8_; (try clear hb); (try clear hb2); (try clear hk); (try clear hi); (try clear ho0); have hcz97_0 : w96.cell? ⟨gb427, 0, none⟩ = some (.slice Ao92 t421.length co92) := (blk_cell BK427.out 0).trans rfl; have hcz97_1 : w96.cell? ⟨gb427, 1, none⟩ = some (.slice Ao95 t424.length co95) := (blk_cell BK427.out 1).trans rfl; have hfz97_0 := blk_frozen BK427.out 0; have hfz97_1 := blk_frozen BK427.out 1; obtain ⟨Ao98, co98, eo98⟩ := Kd.R_slice HO430.out; subst eo98) | ((with_reducible refine gate_callee (f := 23) rfl ?_); refine goesL_ (some 29) rfl rfl Tryd.func23 (by kernel_rfl) rfl #[.agg #[.slice Ao92 t421.length co92, .slice Ao95 t424.length co95], .slice Ao98 t428.length co98] rfl (by (try simp only [List.map_toArray, List.map_cons, List.map_nil]); first | done | rfl | (simp only [List.length_drop, List.length_take]; rfl)) ?_; (with_reducible refine (impl_KostkaNumber.calls k _ _ t421 _ _ t424 _ _ t428 t431 _ ?side1 ?side2 ?side3 ?side4 ?side5 ?side6 A15.out).mono ?_); (case side1 => repeat (first | exact (Kd.R_reads' HO423.out).2.2 | (with_reducible refine Kd.C_alloc ?_ _) | (with_reducible refine Kd.C_drewN ?_ _) | (with_reducible refine Kd.C_drew ?_))); (case side2 => exact (Kd.R_reads' HO423.out).2.1); (case side3 => repeat (first | exact (Kd.R_reads' HO426.out).2.2 | (with_reducible refine Kd.C_alloc ?_ _) | (with_reducible refine Kd.C_drewN ?_ _) | (with_reducible refine Kd.C_drew ?_))); (case side4 => exact (Kd.R_reads' HO426.out).2.1); (case side5 => repeat (first | exact (Kd.R_reads' HO430.out).2.2 | (with_reducible refine Kd.C_alloc ?_ _) | (with_reducible refine Kd.C_drewN ?_ _) | (with_reducible refine Kd.C_drew ?_))); (case side6 => exact (Kd.R_reads' HO430.out).2.1); rintro e w99 ⟨rfl, hb⟩; refine ⟨_, rfl, ?_⟩; have n0_ := Aside0.mk (Kd.R_below (by (with_reducible repeat (first | apply Kd.R_alloc | apply Kd.R_drewN | apply Kd.R_drew)); exact HO413.out) hb); have n1_ := Aside0.mk (Kd.R_below (by (with_reducible repeat (first | apply Kd.R_alloc | apply Kd.R_drewN | apply Kd.R_drew)); exact HO416.out) hb); have n2_ := Aside0.mk (Kd.R_below (by (with_reducible repeat (first | apply Kd.R_alloc | apply Kd.R_drewN | apply Kd.R_drew)); exact HO419.out) hb); have n3_ := Aside0.mk (Kd.R_below (by (with_reducible repeat (first | apply Kd.R_alloc | apply Kd.R_drewN | apply Kd.R_drew)); exact HO423.out) hb); have n4_ := Aside0.mk (Kd.R_below (by (with_reducible repeat (first | apply Kd.R_alloc | apply Kd.R_drewN | apply Kd.R_drew)); exact HO426.out) hb); have n5_ := Aside0.mk (Kd.R_below (by (with_reducible repeat (first | apply Kd.R_alloc | apply Kd.R_drewN | apply Kd.R_drew)); exact HO430.out) hb); have n6_ := Aside0.mk (blk_below (g := gb409) (o := .cells #[.slice A0_0 l0_0.length c0_0, .slice A0_1 l0_1.length c0_1] 35 (0, 0)) (by (with_reducible repeat (first | refine blk_drewN ?_ _ | refine blk_drew ?_ | refine blk_alloc ?_ _)); exact BK409.out) hb); have n7_ := Aside0.mk (blk_below (g := gb427) (o := .cells #[.slice Ao92 t421.length co92, .slice Ao95 t424.length co95] 38 (0, 0)) (by (with_reducible repeat (first | refine blk_drewN ?_ _ | refine blk_drew ?_ | refine blk_alloc ?_ _)); exact BK427.out) hb); have n8_ := Aside0.mk (below_step (by repeat (first | (with_reducible first | exact HB.out | apply below_alloc | apply pw_below_drewN | apply below_drew1 | refine below_set ?_ GE409.out | refine below_set ?_ GE427.out) | exact HB.out)) hb); clear HO413; clear HO416; clear HO419; clear HO423; clear HO426; clear HO430; clear BK409; clear BK427; clear HB; have HO413 := n0_; have HO416 := n1_; have HO419 := n2_; have HO423 := n3_; have HO426 := n4_; have HO430 := n5_; have BK409 := n6_; have BK427 := n7_; have HB := n8_; clear n0_ n1_ n2_ n3_ n4_ n5_ n6_ n7_ n8_; (try clear hb); (try clear hb2); (try clear hk); (try clear hi)))
     have n0_ := Aside0.mk (Kd.R_drew HO413.out)
     have n1_ := Aside0.mk (Kd.R_drew HO416.out)
     have n2_ := Aside0.mk (Kd.R_drew HO419.out)
     have n3_ := Aside0.mk (Kd.R_drew HO423.out)
     have n4_ := Aside0.mk (Kd.R_drew HO426.out)
     have n5_ := Aside0.mk (Kd.R_drew HO430.out)
     have n6_ := Aside0.mk (blk_drew BK409.out)
     have n7_ := Aside0.mk (blk_drew BK427.out)
     have n8_ := Aside0.mk (below_drew1 HB.out)
     clear HO413
     clear HO416
     clear HO419
     clear HO423
     clear HO426
     clear HO430
     clear BK409
     clear BK427
     clear HB
     have HO413 := n0_
     have HO416 := n1_
     have HO419 := n2_
     have HO423 := n3_
     have HO426 := n4_
     have HO430 := n5_
     have BK409 := n6_
     have BK427 := n7_
     have HB := n8_
     clear n0_ n1_ n2_ n3_ n4_ n5_ n6_ n7_ n8_
     refine start_ (n := 5) (S := fun w' => w'.cell? ⟨gb427, 0, none⟩ = some (.slice Ao92 t421.length co92) ∧ w'.cell? ⟨gb427, 1, none⟩ = some (.slice Ao95 t424.length co95) ∧ w'.cell? ⟨gb409, 0, none⟩ = some (.slice A0_0 l0_0.length c0_0) ∧ w'.cell? ⟨gb409, 1, none⟩ = some (.slice A0_1 l0_1.length c0_1)) (ds := []) #[false, false, false, false, false] (by kernel_rfl) rfl rfl ⟨(blk_cell BK427.out 0).trans rfl, (blk_cell BK427.out 1).trans rfl, (blk_cell BK409.out 0).trans rfl, (blk_cell BK409.out 1).trans rfl⟩ (fun hHeld => ?_)
     generalize w99.drew = w100 at HO413 HO416 HO419 HO423 HO426 HO430 BK409 BK427 HB hHeld ⊢
     refine take_ (i := 0) (N := some 33) (v := ?_) (a' := ?_) #[true, false, false, false, false] rfl rfl (by kernel_rfl) (fun _ _ _ h => h) (Or.inl ⟨by rfl, ?_⟩) hHeld ?_ ?_
     rotate_left
     ·
      rintro w' ⟨s0, s1, s2, s3⟩
      go_simp
      with_reducible rfl
     rotate_left
     ·
      simp only [Act.put, List.setIfInBounds_toArray, List.set_cons_zero, List.set_cons_succ, i64_w, i32_w]
      rfl
     refine take_ (i := 1) (N := some 34) (v := ?_) (a' := ?_) #[true, true, false, false, false] rfl rfl (by kernel_rfl) (fun _ _ _ h => h) (Or.inl ⟨by rfl, ?_⟩) hHeld ?_ ?_
     rotate_left
     ·
      rintro w' ⟨s0, s1, s2, s3⟩
      go_simp
      with_reducible rfl
     rotate_left
     ·
      simp only [Act.put, List.setIfInBounds_toArray, List.set_cons_zero, List.set_cons_succ, i64_w, i32_w]
      rfl
     refine one_ (i := 2) (N := some 35) #[true, true, true, false, false] rfl rfl (by kernel_rfl) (by decide) (fun K hK => ?_)
     refine goes_ Tryd.func19 (by kernel_rfl) rfl #[.agg #[.slice A0_0 l0_0.length c0_0, .slice A0_1 l0_1.length c0_1]] (by rfl) rfl rfl (by (try simp only [List.map_toArray, List.map_cons, List.map_nil]); first | done | rfl | (simp only [List.length_drop, List.length_take]; rfl)) ?_
     with_reducible refine (laws_toShape.calls k _ _ l0_0 _ _ l0_1 t432 t435 _ ?side1 ?side2 ?side3 ?side4 A17.out).mono ?_
     (case side1 => repeat (first | exact (Kd.C_below HR0_0.out HB.out) | (with_reducible refine Kd.C_alloc ?_ _) | (with_reducible refine Kd.C_drewN ?_ _) | (with_reducible refine Kd.C_drew ?_)))
     (case side2 => exact HC0_0.out)
     (case side3 => repeat (first | exact (Kd.C_below HR0_1.out HB.out) | (with_reducible refine Kd.C_alloc ?_ _) | (with_reducible refine Kd.C_drewN ?_ _) | (with_reducible refine Kd.C_drew ?_)))
     (case side4 => exact HC0_1.out)
     rintro e w101 ⟨v433, v436, rfl, ho0, ho1, hb⟩
     refine ⟨_, rfl, ?_⟩
     have n0_ := Aside0.mk (Kd.R_mono (Kd.R_told (Kd.R_told (Kd.R_old (by (with_reducible repeat (first | apply Kd.R_alloc | apply Kd.R_drewN | apply Kd.R_drew)); exact HO413.out) hb) (Kd.R_base ho0)) (Kd.R_base ho1)) (fun _ h_ => h_.1))
     have n1_ := Aside0.mk (Kd.R_mono (Kd.R_told (Kd.R_told (Kd.R_old (by (with_reducible repeat (first | apply Kd.R_alloc | apply Kd.R_drewN | apply Kd.R_drew)); exact HO416.out) hb) (Kd.R_base ho0)) (Kd.R_base ho1)) (fun _ h_ => h_.1))
     have n2_ := Aside0.mk (Kd.R_mono (Kd.R_told (Kd.R_told (Kd.R_old (by (with_reducible repeat (first | apply Kd.R_alloc | apply Kd.R_drewN | apply Kd.R_drew)); exact HO419.out) hb) (Kd.R_base ho0)) (Kd.R_base ho1)) (fun _ h_ => h_.1))
     have n3_ := Aside0.mk (Kd.R_mono (Kd.R_told (Kd.R_told (Kd.R_old (by (with_reducible repeat (first | apply Kd.R_alloc | apply Kd.R_drewN | apply Kd.R_drew)); exact HO423.out) hb) (Kd.R_base ho0)) (Kd.R_base ho1)) (fun _ h_ => h_.1))
     have n4_ := Aside0.mk (Kd.R_mono (Kd.R_told (Kd.R_told (Kd.R_old (by (with_reducible repeat (first | apply Kd.R_alloc | apply Kd.R_drewN | apply Kd.R_drew)); exact HO426.out) hb) (Kd.R_base ho0)) (Kd.R_base ho1)) (fun _ h_ => h_.1))
     have n5_ := Aside0.mk (Kd.R_mono (Kd.R_told (Kd.R_told (Kd.R_old (by (with_reducible repeat (first | apply Kd.R_alloc | apply Kd.R_drewN | apply Kd.R_drew)); exact HO430.out) hb) (Kd.R_base ho0)) (Kd.R_base ho1)) (fun _ h_ => h_.1))
     have n6_ := Aside0.mk (Kd.R_lower (Kd.R_new' (Kd.R_new' (Kd.R_new' (Kd.R_new' (Kd.R_new' (Kd.R_new' ho0 (Kd.R_lt (by (with_reducible repeat (first | apply Kd.R_alloc | apply Kd.R_drewN | apply Kd.R_drew)); exact HO413.out))) (Kd.R_lt (by (with_reducible repeat (first | apply Kd.R_alloc | apply Kd.R_drewN | apply Kd.R_drew)); exact HO416.out))) (Kd.R_lt (by (with_reducible repeat (first | apply Kd.R_alloc | apply Kd.R_drewN | apply Kd.R_drew)); exact HO419.out))) (Kd.R_lt (by (with_reducible repeat (first | apply Kd.R_alloc | apply Kd.R_drewN | apply Kd.R_drew)); exact HO423.out))) (Kd.R_lt (by (with_reducible repeat (first | apply Kd.R_alloc | apply Kd.R_drewN | apply Kd.R_drew)); exact HO426.out))) (Kd.R_lt (by (with_reducible repeat (first | apply Kd.R_alloc | apply Kd.R_drewN | apply Kd.R_drew)); exact HO430.out))) (below_size (by repeat (first | (with_reducible first | exact HB.out | apply below_alloc | apply pw_below_drewN | apply below_drew1 | refine below_set ?_ GE409.out | refine below_set ?_ GE427.out) | exact HB.out))))
     have n7_ := Aside0.mk (Kd.R_lower (Kd.R_new' (Kd.R_new' (Kd.R_new' (Kd.R_new' (Kd.R_new' (Kd.R_new' ho1 (Kd.R_lt (by (with_reducible repeat (first | apply Kd.R_alloc | apply Kd.R_drewN | apply Kd.R_drew)); exact HO413.out))) (Kd.R_lt (by (with_reducible repeat (first | apply Kd.R_alloc | apply Kd.R_drewN | apply Kd.R_drew)); exact HO416.out))) (Kd.R_lt (by (with_reducible repeat (first | apply Kd.R_alloc | apply Kd.R_drewN | apply Kd.R_drew)); exact HO419.out))) (Kd.R_lt (by (with_reducible repeat (first | apply Kd.R_alloc | apply Kd.R_drewN | apply Kd.R_drew)); exact HO423.out))) (Kd.R_lt (by (with_reducible repeat (first | apply Kd.R_alloc | apply Kd.R_drewN | apply Kd.R_drew)); exact HO426.out))) (Kd.R_lt (by (with_reducible repeat (first | apply Kd.R_alloc | apply Kd.R_drewN | apply Kd.R_drew)); exact HO430.out))) (below_size (by repeat (first | (with_reducible first | exact HB.out | apply below_alloc | apply pw_below_drewN | apply below_drew1 | refine below_set ?_ GE409.out | refine below_set ?_ GE427.out) | exact HB.out))))
     have n8_ := Aside0.mk (blk_below (g := gb409) (o := .cells #[.slice A0_0 l0_0.length c0_0, .slice A0_1 l0_1.length c0_1] 35 (0, 0)) (by (with_reducible repeat (first | refine blk_drewN ?_ _ | refine blk_drew ?_ | refine blk_alloc ?_ _)); exact BK409.out) hb)
     have n9_ := Aside0.mk (blk_below (g := gb427) (o := .cells #[.slice Ao92 t421.length co92, .slice Ao95 t424.length co95] 38 (0, 0)) (by (with_reducible repeat (first | refine blk_drewN ?_ _ | refine blk_drew ?_ | refine blk_alloc ?_ _)); exact BK427.out) hb)
     have n10_ := Aside0.mk (below_step (by repeat (first | (with_reducible first | exact HB.out | apply below_alloc | apply pw_below_drewN | apply below_drew1 | refine below_set ?_ GE409.out | refine below_set ?_ GE427.out) | exact HB.out)) hb)
     clear HO413
     clear HO416
     clear HO419
     clear HO423
     clear HO426
     clear HO430
     clear BK409
     clear BK427
     clear HB
     have HO413 := n0_
     have HO416 := n1_
     have HO419 := n2_
     have HO423 := n3_
     have HO426 := n4_
     have HO430 := n5_
     have HO434 := n6_
     have HO437 := n7_
     have BK409 := n8_
     have BK427 := n9_
     have HB := n10_
     clear n0_ n1_ n2_ n3_ n4_ n5_ n6_ n7_ n8_ n9_ n10_
     (try clear hb)
     (try clear hb2)
     (try clear hk)
     (try clear hi)
     (try clear ho0)
     (try clear ho1)
     obtain ⟨Ao102, co102, eo102⟩ := Kd.R_slice HO434.out
     (first | subst eo102 | (injection eo102 with f1_ f2_ f3_; have f4_ := f1_.symm; have f5_ := f3_.symm; clear f1_ f2_ f3_; subst f4_; subst f5_))
     obtain ⟨Ao103, co103, eo103⟩ := Kd.R_slice HO437.out
     (first | subst eo103 | (injection eo103 with f1_ f2_ f3_; have f4_ := f1_.symm; have f5_ := f3_.symm; clear f1_ f2_ f3_; subst f4_; subst f5_))
     refine hK.out _ _ ⟨(blk_cell BK427.out 0).trans rfl, (blk_cell BK427.out 1).trans rfl, (blk_cell BK409.out 0).trans rfl, (blk_cell BK409.out 1).trans rfl⟩ (fun hHeld => ?_)
     clear hK K
     refine norm_ (a' := ?_) ?_ ?_
     rotate_left
     ·
      show Act.put _ (some 35) _ = _
      simp only [Act.put, List.setIfInBounds_toArray, List.set_cons_zero, List.set_cons_succ, i64_w, i32_w]
      rfl
     refine one_ (i := 3) (N := some 36) #[true, true, true, true, false] rfl rfl (by kernel_rfl) (by decide) (fun K hK => ?_)
     refine goes_ Tryd.func21 (by kernel_rfl) rfl #[.agg #[.slice Ao92 t421.length co92, .slice Ao95 t424.length co95], .agg #[.slice Ao102 t432.length co102, .slice Ao103 t435.length co103]] (by rfl) rfl rfl (by (try simp only [List.map_toArray, List.map_cons, List.map_nil]); first | done | rfl | (simp only [List.length_drop, List.length_take]; rfl)) ?_
     with_reducible refine (laws_eqShape.calls k _ _ t421 _ _ t424 _ _ t432 _ _ t435 false _ ?side1 ?side2 ?side3 ?side4 ?side5 ?side6 ?side7 ?side8 A18.out).mono ?_
     (case side1 => repeat (first | exact (Kd.R_reads' HO423.out).2.2 | (with_reducible refine Kd.C_alloc ?_ _) | (with_reducible refine Kd.C_drewN ?_ _) | (with_reducible refine Kd.C_drew ?_)))
     (case side2 => exact (Kd.R_reads' HO423.out).2.1)
     (case side3 => repeat (first | exact (Kd.R_reads' HO426.out).2.2 | (with_reducible refine Kd.C_alloc ?_ _) | (with_reducible refine Kd.C_drewN ?_ _) | (with_reducible refine Kd.C_drew ?_)))
     (case side4 => exact (Kd.R_reads' HO426.out).2.1)
     (case side5 => repeat (first | exact (Kd.R_reads' HO434.out).2.2 | (with_reducible refine Kd.C_alloc ?_ _) | (with_reducible refine Kd.C_drewN ?_ _) | (with_reducible refine Kd.C_drew ?_)))
     (case side6 => exact (Kd.R_reads' HO434.out).2.1)
     (case side7 => repeat (first | exact (Kd.R_reads' HO437.out).2.2 | (with_reducible refine Kd.C_alloc ?_ _) | (with_reducible refine Kd.C_drewN ?_ _) | (with_reducible refine Kd.C_drew ?_)))
     (case side8 => exact (Kd.R_reads' HO437.out).2.1)
     rintro e w104 ⟨rfl, hb⟩
     refine ⟨_, rfl, ?_⟩
     have n0_ := Aside0.mk (Kd.R_below (by (with_reducible repeat (first | apply Kd.R_alloc | apply Kd.R_drewN | apply Kd.R_drew)); exact HO413.out) hb)
     have n1_ := Aside0.mk (Kd.R_below (by (with_reducible repeat (first | apply Kd.R_alloc | apply Kd.R_drewN | apply Kd.R_drew)); exact HO416.out) hb)
     have n2_ := Aside0.mk (Kd.R_below (by (with_reducible repeat (first | apply Kd.R_alloc | apply Kd.R_drewN | apply Kd.R_drew)); exact HO419.out) hb)
     have n3_ := Aside0.mk (Kd.R_below (by (with_reducible repeat (first | apply Kd.R_alloc | apply Kd.R_drewN | apply Kd.R_drew)); exact HO423.out) hb)
     have n4_ := Aside0.mk (Kd.R_below (by (with_reducible repeat (first | apply Kd.R_alloc | apply Kd.R_drewN | apply Kd.R_drew)); exact HO426.out) hb)
     have n5_ := Aside0.mk (Kd.R_below (by (with_reducible repeat (first | apply Kd.R_alloc | apply Kd.R_drewN | apply Kd.R_drew)); exact HO430.out) hb)
     have n6_ := Aside0.mk (Kd.R_below (by (with_reducible repeat (first | apply Kd.R_alloc | apply Kd.R_drewN | apply Kd.R_drew)); exact HO434.out) hb)
     have n7_ := Aside0.mk (Kd.R_below (by (with_reducible repeat (first | apply Kd.R_alloc | apply Kd.R_drewN | apply Kd.R_drew)); exact HO437.out) hb)
     have n8_ := Aside0.mk (blk_below (g := gb409) (o := .cells #[.slice A0_0 l0_0.length c0_0, .slice A0_1 l0_1.length c0_1] 35 (0, 0)) (by (with_reducible repeat (first | refine blk_drewN ?_ _ | refine blk_drew ?_ | refine blk_alloc ?_ _)); exact BK409.out) hb)
     have n9_ := Aside0.mk (blk_below (g := gb427) (o := .cells #[.slice Ao92 t421.length co92, .slice Ao95 t424.length co95] 38 (0, 0)) (by (with_reducible repeat (first | refine blk_drewN ?_ _ | refine blk_drew ?_ | refine blk_alloc ?_ _)); exact BK427.out) hb)
     have n10_ := Aside0.mk (below_step (by repeat (first | (with_reducible first | exact HB.out | apply below_alloc | apply pw_below_drewN | apply below_drew1 | refine below_set ?_ GE409.out | refine below_set ?_ GE427.out) | exact HB.out)) hb)
     clear HO413
     clear HO416
     clear HO419
     clear HO423
     clear HO426
     clear HO430
     clear HO434
     clear HO437
     clear BK409
     clear BK427
     clear HB
     have HO413 := n0_
     have HO416 := n1_
     have HO419 := n2_
     have HO423 := n3_
     have HO426 := n4_
     have HO430 := n5_
     have HO434 := n6_
     have HO437 := n7_
     have BK409 := n8_
     have BK427 := n9_
     have HB := n10_
     clear n0_ n1_ n2_ n3_ n4_ n5_ n6_ n7_ n8_ n9_ n10_
     (try clear hb)
     (try clear hb2)
     (try clear hk)
     (try clear hi)
     refine hK.out _ _ ⟨(blk_cell BK427.out 0).trans rfl, (blk_cell BK427.out 1).trans rfl, (blk_cell BK409.out 0).trans rfl, (blk_cell BK409.out 1).trans rfl⟩ (fun hHeld => ?_)
     clear hK K
     refine norm_ (a' := ?_) ?_ ?_
     rotate_left
     ·
      show Act.put _ (some 36) _ = _
      simp only [Act.put, List.setIfInBounds_toArray, List.set_cons_zero, List.set_cons_succ, i64_w, i32_w]
      rfl
     refine pure_ (i := 4) (N := some 37) (v := ?_) (a' := ?_) #[true, true, true, true, true] rfl rfl (by kernel_rfl) (fun _ _ _ h => h) (Or.inl ⟨by rfl, ?_⟩) ?_ ?_
     rotate_left
     ·
      intro w'
      go_simp
      with_reducible rfl
     rotate_left
     ·
      simp only [Act.put, List.setIfInBounds_toArray, List.set_cons_zero, List.set_cons_succ, i64_w, i32_w]
      rfl
     refine done_ (by kernel_rfl) ?_
     try go_wp2
     go_ret
     exact ⟨by first | rfl | (simp [errW_none, errW_some] <;> rfl) | (simp [*, errW_none, errW_some] <;> rfl), by repeat (first | (with_reducible first | exact HB.out | apply below_alloc | apply pw_below_drewN | apply below_drew1 | refine below_set ?_ GE409.out | refine below_set ?_ GE427.out) | exact HB.out)⟩
   ·
    rw [if_neg c16] at H
    have c16b0 : (t431 == t420) = false := beq_eq_false_iff_ne.mpr c16
    have c16b1 : (t431 != t420) = true := bne_iff_ne.mpr c16
    obtain rfl := Option.some.inj H
    go_enter Tryd.func6, Tryd.ntmps6
    go_wp2_with (first | ((with_reducible refine gate_dst (N := 2) rfl ?_); refine box_event ?hg (N := 2) ?hd (cs := #[.slice A0_0 l0_0.length c0_0, .slice A0_1 l0_1.length c0_1]) (t := 35) ?hr ?_; (case hd => rfl); (case hg => rfl); (case hr => first | (go_simp; done) | (go_simp; rfl)); intro gb409 hg w105 hbox hb; have n0_ := Aside0.mk (below_step (by repeat (first | (with_reducible first | exact HB.out | apply below_alloc | apply pw_below_drewN | apply below_drew1) | exact HB.out)) hb); have n1_ := Aside0.mk (hbox); have n2_ := Aside0.mk ((by rw [hg]; exact (below_size (by repeat (first | (with_reducible first | exact HB.out | apply below_alloc | apply pw_below_drewN | apply below_drew1) | exact HB.out))) : w.heap.size ≤ gb409)); have n3_ := Aside0.mk ((by rw [hg]; exact (below_size (by repeat (first | (with_reducible first | exact HB.out | apply below_alloc | apply pw_below_drewN | apply below_drew1) | exact HB.out))) : w.heap.size ≤ gb409)); clear HB; have HB := n0_; have BK409 := n1_; have GW409 := n2_; have GE409 := n3_; clear n0_ n1_ n2_ n3_; clear hb hbox hg; have hcz106_0 : w105.cell? ⟨gb409, 0, none⟩ = some (.slice A0_0 l0_0.length c0_0) := (blk_cell BK409.out 0).trans rfl; have hcz106_1 : w105.cell? ⟨gb409, 1, none⟩ = some (.slice A0_1 l0_1.length c0_1) := (blk_cell BK409.out 1).trans rfl; have hfz106_0 := blk_frozen BK409.out 0; have hfz106_1 := blk_frozen BK409.out 1) | ((with_reducible refine gate_callee (f := 17) rfl ?_); refine goesL_ (some 15) rfl rfl Tryd.func17 (by kernel_rfl) rfl #[.agg #[.slice A0_0 l0_0.length c0_0, .slice A0_1 l0_1.length c0_1], .int .i64 1048576] rfl (by (try simp only [List.map_toArray, List.map_cons, List.map_nil]); first | done | rfl | (simp only [List.length_drop, List.length_take]; rfl)) ?_; (with_reducible refine (laws_szShape.calls _ _ l0_0 _ _ l0_1 1048576 t410 _ ?side1 ?side2 ?side3 ?side4 A5.out).mono ?_); (case side1 => repeat (first | exact (Kd.C_below HR0_0.out HB.out) | (with_reducible refine Kd.C_alloc ?_ _) | (with_reducible refine Kd.C_drewN ?_ _) | (with_reducible refine Kd.C_drew ?_))); (case side2 => exact HC0_0.out); (case side3 => repeat (first | exact (Kd.C_below HR0_1.out HB.out) | (with_reducible refine Kd.C_alloc ?_ _) | (with_reducible refine Kd.C_drewN ?_ _) | (with_reducible refine Kd.C_drew ?_))); (case side4 => exact HC0_1.out); rintro e w107 ⟨rfl, hb⟩; refine ⟨_, rfl, ?_⟩; have n0_ := Aside0.mk (blk_below (g := gb409) (o := .cells #[.slice A0_0 l0_0.length c0_0, .slice A0_1 l0_1.length c0_1] 35 (0, 0)) (by (with_reducible repeat (first | refine blk_drewN ?_ _ | refine blk_drew ?_ | refine blk_alloc ?_ _)); exact BK409.out) hb); have n1_ := Aside0.mk (below_step (by repeat (first | (with_reducible first | exact HB.out | apply below_alloc | apply pw_below_drewN | apply below_drew1 | refine below_set ?_ GE409.out) | exact HB.out)) hb); clear BK409; clear HB; have BK409 := n0_; have HB := n1_; clear n0_ n1_; (try clear hb); (try clear hb2); (try clear hk); (try clear hi); have hcz108_0 : w107.cell? ⟨gb409, 0, none⟩ = some (.slice A0_0 l0_0.length c0_0) := (blk_cell BK409.out 0).trans rfl; have hcz108_1 : w107.cell? ⟨gb409, 1, none⟩ = some (.slice A0_1 l0_1.length c0_1) := (blk_cell BK409.out 1).trans rfl; have hfz108_0 := blk_frozen BK409.out 0; have hfz108_1 := blk_frozen BK409.out 1) | ((with_reducible refine gate_callee (f := 19) rfl ?_); refine goesL_ (some 19) rfl rfl Tryd.func19 (by kernel_rfl) rfl #[.agg #[.slice A0_0 l0_0.length c0_0, .slice A0_1 l0_1.length c0_1]] rfl (by (try simp only [List.map_toArray, List.map_cons, List.map_nil]); first | done | rfl | (simp only [List.length_drop, List.length_take]; rfl)) ?_; (with_reducible refine (laws_toShape.calls k _ _ l0_0 _ _ l0_1 t411 t414 _ ?side1 ?side2 ?side3 ?side4 A10.out).mono ?_); (case side1 => repeat (first | exact (Kd.C_below HR0_0.out HB.out) | (with_reducible refine Kd.C_alloc ?_ _) | (with_reducible refine Kd.C_drewN ?_ _) | (with_reducible refine Kd.C_drew ?_))); (case side2 => exact HC0_0.out); (case side3 => repeat (first | exact (Kd.C_below HR0_1.out HB.out) | (with_reducible refine Kd.C_alloc ?_ _) | (with_reducible refine Kd.C_drewN ?_ _) | (with_reducible refine Kd.C_drew ?_))); (case side4 => exact HC0_1.out); rintro e w109 ⟨v412, v415, rfl, ho0, ho1, hb⟩; refine ⟨_, rfl, ?_⟩; have n0_ := Aside0.mk (Kd.R_lower ho0 (below_size (by repeat (first | (with_reducible first | exact HB.out | apply below_alloc | apply pw_below_drewN | apply below_drew1 | refine below_set ?_ GE409.out) | exact HB.out)))); have n1_ := Aside0.mk (Kd.R_lower ho1 (below_size (by repeat (first | (with_reducible first | exact HB.out | apply below_alloc | apply pw_below_drewN | apply below_drew1 | refine below_set ?_ GE409.out) | exact HB.out)))); have n2_ := Aside0.mk (blk_below (g := gb409) (o := .cells #[.slice A0_0 l0_0.length c0_0, .slice A0_1 l0_1.length c0_1] 35 (0, 0)) (by (with_reducible repeat (first | refine blk_drewN ?_ _ | refine blk_drew ?_ | refine blk_alloc ?_ _)); exact BK409.out) hb); have n3_ := Aside0.mk (below_step (by repeat (first | (with_reducible first | exact HB.out | apply below_alloc | apply pw_below_drewN | apply below_drew1 | refine below_set ?_ GE409.out) | exact HB.out)) hb); clear BK409; clear HB; have HO413 := n0_; have HO416 := n1_; have BK409 := n2_; have HB := n3_; clear n0_ n1_ n2_ n3_; (try clear hb); (try clear hb2); (try clear hk); (try clear hi); (try clear ho0); (try clear ho1)) | ((with_reducible refine gate_callee (f := 8) rfl ?_); refine goesL_ (some 21) rfl rfl Tryd.func8 (by kernel_rfl) rfl #[.slice A1 l1.length c1] rfl (by (try simp only [List.map_toArray, List.map_cons, List.map_nil]); first | done | rfl | (simp only [List.length_drop, List.length_take]; rfl)) ?_; (with_reducible refine (laws_toIntS.calls k _ _ l1 t417 _ ?side1 ?side2 A11.out).mono ?_); (case side1 => repeat (first | exact (Kd.C_below HR1.out HB.out) | (with_reducible refine Kd.C_alloc ?_ _) | (with_reducible refine Kd.C_drewN ?_ _) | (with_reducible refine Kd.C_drew ?_))); (case side2 => exact HC1.out); rintro e w110 ⟨v418, rfl, ho0, hb⟩; refine ⟨_, rfl, ?_⟩; have n0_ := Aside0.mk (Kd.R_elder' (by (with_reducible repeat (first | apply Kd.R_alloc | apply Kd.R_drewN | apply Kd.R_drew)); exact HO413.out) (Kd.R_base ho0) hb); have n1_ := Aside0.mk (Kd.R_elder' (by (with_reducible repeat (first | apply Kd.R_alloc | apply Kd.R_drewN | apply Kd.R_drew)); exact HO416.out) (Kd.R_base ho0) hb); have n2_ := Aside0.mk (Kd.R_lower (Kd.R_new' (Kd.R_new' ho0 (Kd.R_lt (by (with_reducible repeat (first | apply Kd.R_alloc | apply Kd.R_drewN | apply Kd.R_drew)); exact HO413.out))) (Kd.R_lt (by (with_reducible repeat (first | apply Kd.R_alloc | apply Kd.R_drewN | apply Kd.R_drew)); exact HO416.out))) (below_size (by repeat (first | (with_reducible first | exact HB.out | apply below_alloc | apply pw_below_drewN | apply below_drew1 | refine below_set ?_ GE409.out) | exact HB.out)))); have n3_ := Aside0.mk (blk_below (g := gb409) (o := .cells #[.slice A0_0 l0_0.length c0_0, .slice A0_1 l0_1.length c0_1] 35 (0, 0)) (by (with_reducible repeat (first | refine blk_drewN ?_ _ | refine blk_drew ?_ | refine blk_alloc ?_ _)); exact BK409.out) hb); have n4_ := Aside0.mk (below_step (by repeat (first | (with_reducible first | exact HB.out | apply below_alloc | apply pw_below_drewN | apply below_drew1 | refine below_set ?_ GE409.out) | exact HB.out)) hb); clear HO413; clear HO416; clear BK409; clear HB; have HO413 := n0_; have HO416 := n1_; have HO419 := n2_; have BK409 := n3_; have HB := n4_; clear n0_ n1_ n2_ n3_ n4_; (try clear hb); (try clear hb2); (try clear hk); (try clear hi); (try clear ho0); obtain ⟨Ao111, co111, eo111⟩ := Kd.R_slice HO413.out; subst eo111; obtain ⟨Ao112, co112, eo112⟩ := Kd.R_slice HO416.out; subst eo112; obtain ⟨Ao113, co113, eo113⟩ := Kd.R_slice HO419.out; subst eo113) | ((with_reducible refine gate_callee (f := 22) rfl ?_); refine goesL_ (some 22) rfl rfl Tryd.func22 (by kernel_rfl) rfl #[.agg #[.slice Ao111 t411.length co111, .slice Ao112 t414.length co112], .slice Ao113 t417.length co113] rfl (by (try simp only [List.map_toArray, List.map_cons, List.map_nil]); first | done | rfl | (simp only [List.length_drop, List.length_take]; rfl)) ?_; (with_reducible refine (spec_KostkaNumber.calls k _ _ t411 _ _ t414 _ _ t417 t420 _ ?side1 ?side2 ?side3 ?side4 ?side5 ?side6 A12.out).mono ?_); (case side1 => repeat (first | exact (Kd.R_reads' HO413.out).2.2 | (with_reducible refine Kd.C_alloc ?_ _) | (with_reducible refine Kd.C_drewN ?_ _) | (with_reducible refine Kd.C_drew ?_))); (case side2 => exact (Kd.R_reads' HO413.out).2.1); (case side3 => repeat (first | exact (Kd.R_reads' HO416.out).2.2 | (with_reducible refine Kd.C_alloc ?_ _) | (with_reducible refine Kd.C_drewN ?_ _) | (with_reducible refine Kd.C_drew ?_))); (case side4 => exact (Kd.R_reads' HO416.out).2.1); (case side5 => repeat (first | exact (Kd.R_reads' HO419.out).2.2 | (with_reducible refine Kd.C_alloc ?_ _) | (with_reducible refine Kd.C_drewN ?_ _) | (with_reducible refine Kd.C_drew ?_))); (case side6 => exact (Kd.R_reads' HO419.out).2.1); rintro e w114 ⟨rfl, hb⟩; refine ⟨_, rfl, ?_⟩; have n0_ := Aside0.mk (Kd.R_below (by (with_reducible repeat (first | apply Kd.R_alloc | apply Kd.R_drewN | apply Kd.R_drew)); exact HO413.out) hb); have n1_ := Aside0.mk (Kd.R_below (by (with_reducible repeat (first | apply Kd.R_alloc | apply Kd.R_drewN | apply Kd.R_drew)); exact HO416.out) hb); have n2_ := Aside0.mk (Kd.R_below (by (with_reducible repeat (first | apply Kd.R_alloc | apply Kd.R_drewN | apply Kd.R_drew)); exact HO419.out) hb); have n3_ := Aside0.mk (blk_below (g := gb409) (o := .cells #[.slice A0_0 l0_0.length c0_0, .slice A0_1 l0_1.length c0_1] 35 (0, 0)) (by (with_reducible repeat (first | refine blk_drewN ?_ _ | refine blk_drew ?_ | refine blk_alloc ?_ _)); exact BK409.out) hb); have n4_ := Aside0.mk (below_step (by repeat (first | (with_reducible first | exact HB.out | apply below_alloc | apply pw_below_drewN | apply below_drew1 | refine below_set ?_ GE409.out) | exact HB.out)) hb); clear HO413; clear HO416; clear HO419; clear BK409; clear HB; have HO413 := n0_; have HO416 := n1_; have HO419 := n2_; have BK409 := n3_; have HB := n4_; clear n0_ n1_ n2_ n3_ n4_; (try clear hb); (try clear hb2); (try clear hk); (try clear hi); have hcz115_0 : w114.cell? ⟨gb409, 0, none⟩ = some (.slice A0_0 l0_0.length c0_0) := (blk_cell BK409.out 0).trans rfl; have hcz115_1 : w114.cell? ⟨gb409, 1, none⟩ = some (.slice A0_1 l0_1.length c0_1) := (blk_cell BK409.out 1).trans rfl; have hfz115_0 := blk_frozen BK409.out 0; have hfz115_1 := blk_frozen BK409.out 1) | ((with_reducible refine gate_callee (f := 19) rfl ?_); refine goesL_ (some 24) rfl rfl Tryd.func19 (by kernel_rfl) rfl #[.agg #[.slice A0_0 l0_0.length c0_0, .slice A0_1 l0_1.length c0_1]] rfl (by (try simp only [List.map_toArray, List.map_cons, List.map_nil]); first | done | rfl | (simp only [List.length_drop, List.length_take]; rfl)) ?_; (with_reducible refine (laws_toShape.calls k _ _ l0_0 _ _ l0_1 t421 t424 _ ?side1 ?side2 ?side3 ?side4 A13.out).mono ?_); (case side1 => repeat (first | exact (Kd.C_below HR0_0.out HB.out) | (with_reducible refine Kd.C_alloc ?_ _) | (with_reducible refine Kd.C_drewN ?_ _) | (with_reducible refine Kd.C_drew ?_))); (case side2 => exact HC0_0.out); (case side3 => repeat (first | exact (Kd.C_below HR0_1.out HB.out) | (with_reducible refine Kd.C_alloc ?_ _) | (with_reducible refine Kd.C_drewN ?_ _) | (with_reducible refine Kd.C_drew ?_))); (case side4 => exact HC0_1.out); rintro e w116 ⟨v422, v425, rfl, ho0, ho1, hb⟩; refine ⟨_, rfl, ?_⟩; have n0_ := Aside0.mk (Kd.R_mono (Kd.R_told (Kd.R_told (Kd.R_old (by (with_reducible repeat (first | apply Kd.R_alloc | apply Kd.R_drewN | apply Kd.R_drew)); exact HO413.out) hb) (Kd.R_base ho0)) (Kd.R_base ho1)) (fun _ h_ => h_.1)); have n1_ := Aside0.mk (Kd.R_mono (Kd.R_told (Kd.R_told (Kd.R_old (by (with_reducible repeat (first | apply Kd.R_alloc | apply Kd.R_drewN | apply Kd.R_drew)); exact HO416.out) hb) (Kd.R_base ho0)) (Kd.R_base ho1)) (fun _ h_ => h_.1)); have n2_ := Aside0.mk (Kd.R_mono (Kd.R_told (Kd.R_told (Kd.R_old (by (with_reducible repeat (first | apply Kd.R_alloc | apply Kd.R_drewN | apply Kd.R_drew)); exact HO419.out) hb) (Kd.R_base ho0)) (Kd.R_base ho1)) (fun _ h_ => h_.1)); have n3_ := Aside0.mk (Kd.R_lower (Kd.R_new' (Kd.R_new' (Kd.R_new' ho0 (Kd.R_lt (by (with_reducible repeat (first | apply Kd.R_alloc | apply Kd.R_drewN | apply Kd.R_drew)); exact HO413.out))) (Kd.R_lt (by (with_reducible repeat (first | apply Kd.R_alloc | apply Kd.R_drewN | apply Kd.R_drew)); exact HO416.out))) (Kd.R_lt (by (with_reducible repeat (first | apply Kd.R_alloc | apply Kd.R_drewN | apply Kd.R_drew)); exact HO419.out))) (below_size (by repeat (first | (with_reducible first | exact HB.out | apply below_alloc | apply pw_below_drewN | apply below_drew1 | refine below_set ?_ GE409.out) | exact HB.out)))); have n4_ := Aside0.mk (Kd.R_lower (Kd.R_new' (Kd.R_new' (Kd.R_new' ho1 (Kd.R_lt (by (with_reducible repeat (first | apply Kd.R_alloc | apply Kd.R_drewN | apply Kd.R_drew)); exact HO413.out))) (Kd.R_lt (by (with_reducible repeat (first | apply Kd.R_alloc | apply Kd.R_drewN | apply Kd.R_drew)); exact HO416.out))) (Kd.R_lt (by (with_reducible repeat (first | apply Kd.R_alloc | apply Kd.R_drewN | apply Kd.R_drew)); exact HO419.out))) (below_size (by repeat (first | (with_reducible first | exact HB.out | apply below_alloc | apply pw_below_drewN | apply below_drew1 | refine below_set ?_ GE409.out) | exact HB.out)))); have n5_ := Aside0.mk (blk_below (g := gb409) (o := .cells #[.slice A0_0 l0_0.length c0_0, .slice A0_1 l0_1.length c0_1] 35 (0, 0)) (by (with_reducible repeat (first | refine blk_drewN ?_ _ | refine blk_drew ?_ | refine blk_alloc ?_ _)); exact BK409.out) hb); have n6_ := Aside0.mk (below_step (by repeat (first | (with_reducible first | exact HB.out | apply below_alloc | apply pw_below_drewN | apply below_drew1 | refine below_set ?_ GE409.out) | exact HB.out)) hb); clear HO413; clear HO416; clear HO419; clear BK409; clear HB; have HO413 := n0_; have HO416 := n1_; have HO419 := n2_; have HO423 := n3_; have HO426 := n4_; have BK409 := n5_; have HB := n6_; clear n0_ n1_ n2_ n3_ n4_ n5_ n6_; (try clear hb); (try clear hb2); (try clear hk); (try clear hi); (try clear ho0); (try clear ho1)) | ((with_reducible refine gate_dst (N := 7) rfl ?_); refine box_event ?hg (N := 7) ?hd (cs := #[.slice none 0 0, .slice none 0 0]) (t := 38) ?hr ?_; (case hd => rfl); (case hg => rfl); (case hr => first | (go_simp; done) | (go_simp; rfl)); intro gb427 hg w117 hbox hb; have n0_ := Aside0.mk (Kd.R_below (by (with_reducible repeat (first | apply Kd.R_alloc | apply Kd.R_drewN | apply Kd.R_drew)); exact HO413.out) hb); have n1_ := Aside0.mk (Kd.R_below (by (with_reducible repeat (first | apply Kd.R_alloc | apply Kd.R_drewN | apply Kd.R_drew)); exact HO416.out) hb); have n2_ := Aside0.mk (Kd.R_below (by (with_reducible repeat (first | apply Kd.R_alloc | apply Kd.R_drewN | apply Kd.R_drew)); exact HO419.out) hb); have n3_ := Aside0.mk (Kd.R_below (by (with_reducible repeat (first | apply Kd.R_alloc | apply Kd.R_drewN | apply Kd.R_drew)); exact HO423.out) hb); have n4_ := Aside0.mk (Kd.R_below (by (with_reducible repeat (first | apply Kd.R_alloc | apply Kd.R_drewN | apply Kd.R_drew)); exact HO426.out) hb); have n5_ := Aside0.mk (blk_below (g := gb409) (o := .cells #[.slice A0_0 l0_0.length c0_0, .slice A0_1 l0_1.length c0_1] 35 (0, 0)) (by (with_reducible repeat (first | refine blk_drewN ?_ _ | refine blk_drew ?_ | refine blk_alloc ?_ _)); exact BK409.out) hb); have n6_ := Aside0.mk (below_step (by repeat (first | (with_reducible first | exact HB.out | apply below_alloc | apply pw_below_drewN | apply below_drew1 | refine below_set ?_ GE409.out) | exact HB.out)) hb); have n7_ := Aside0.mk (hbox); have n8_ := Aside0.mk ((by rw [hg]; exact (below_size (by repeat (first | (with_reducible first | exact HB.out | apply below_alloc | apply pw_below_drewN | apply below_drew1 | refine below_set ?_ GE409.out) | exact HB.out))) : w.heap.size ≤ gb427)); have n9_ := Aside0.mk ((by rw [hg]; exact (below_size (by repeat (first | (with_reducible first | exact HB.out | apply below_alloc | apply pw_below_drewN | apply below_drew1 | refine below_set ?_ GE409.out) | exact HB.out))) : w.heap.size ≤ gb427)); have n10_ := Aside0.mk ((by rw [hg]; exact Nat.ne_of_lt (blk_lt (g := gb409) (o := .cells #[.slice A0_0 l0_0.length c0_0, .slice A0_1 l0_1.length c0_1] 35 (0, 0)) (by (with_reducible repeat (first | refine blk_drewN ?_ _ | refine blk_drew ?_ | refine blk_alloc ?_ _)); exact BK409.out)) : gb409 ≠ gb427)); have n11_ := Aside0.mk ((by rw [hg]; exact Nat.ne_of_gt (blk_lt (g := gb409) (o := .cells #[.slice A0_0 l0_0.length c0_0, .slice A0_1 l0_1.length c0_1] 35 (0, 0)) (by (with_reducible repeat (first | refine blk_drewN ?_ _ | refine blk_drew ?_ | refine blk_alloc ?_ _)); exact BK409.out)) : gb427 ≠ gb409)); clear HO413; clear HO416; clear HO419; clear HO423; clear HO426; clear BK409; clear HB; have HO413 := n0_; have HO416 := n1_; have HO419 := n2_; have HO423 := n3_; have HO426 := n4_; have BK409 := n5_; have HB := n6_; have BK427 := n7_; have GW427 := n8_; have GE427 := n9_; have NB409_427 := n10_; have NB427_409 := n11_; clear n0_ n1_ n2_ n3_ n4_ n5_ n6_ n7_ n8_ n9_ n10_ n11_; clear hb hbox hg; obtain ⟨Ao118, co118, eo118⟩ := Kd.R_slice HO423.out; subst eo118; have hnb119 := NB427_409.out; have hnc119 := NB409_427.out; have hcz120_0 : w117.cell? ⟨gb427, 0, none⟩ = some (.slice none 0 0) := (blk_cell BK427.out 0).trans rfl; have hcz120_1 : w117.cell? ⟨gb427, 1, none⟩ = some (.slice none 0 0) := (blk_cell BK427.out 1).trans rfl; have hfz120_0 := blk_frozen BK427.out 0; have hfz120_1 := blk_frozen BK427.out 1; obtain ⟨Ao121, co121, eo121⟩ := Kd.R_slice HO426.out; subst eo121) | ((with_reducible refine gate_callee (f := 8) rfl ?_); refine goesL_ (some 26) rfl rfl Tryd.func8 (by kernel_rfl) rfl #[.slice A1 l1.length c1] rfl (by (try simp only [List.map_toArray, List.map_cons, List.map_nil]); first | done | rfl | (simp only [List.length_drop, List.length_take]; rfl)) ?_; (with_reducible refine (laws_toIntS.calls k _ _ l1 t428 _ ?side1 ?side2 A14.out).mono ?_); (case side1 => exact Kd.C_below HR1.out (by repeat (first | (with_reducible first | exact HB.out | apply below_alloc | apply pw_below_drewN | apply below_drew1 | refine below_set ?_ GE409.out | refine below_set ?_ GE427.out) | exact HB.out))); (case side2 => exact HC1.out); rintro e w122 ⟨v429, rfl, ho0, hb⟩; refine ⟨_, rfl, ?_⟩; have n0_ := Aside0.mk (Kd.R_elder' (by (with_reducible repeat (first | apply Kd.R_alloc | apply Kd.R_drewN | apply Kd.R_drew)); exact (Kd.R_mono (Kd.R_far (p := ⟨gb427, 1, none⟩) (Kd.R_far (p := ⟨gb427, 0, none⟩) (Kd.R_types HO413.out BK427.out (by decide)) (fun _ hk => hk.2) (.slice Ao118 t421.length co118)) (fun _ hk => hk.2) (.slice Ao121 t424.length co121)) (fun _ h_ => h_.1))) (Kd.R_base ho0) hb); have n1_ := Aside0.mk (Kd.R_elder' (by (with_reducible repeat (first | apply Kd.R_alloc | apply Kd.R_drewN | apply Kd.R_drew)); exact (Kd.R_mono (Kd.R_far (p := ⟨gb427, 1, none⟩) (Kd.R_far (p := ⟨gb427, 0, none⟩) (Kd.R_types HO416.out BK427.out (by decide)) (fun _ hk => hk.2) (.slice Ao118 t421.length co118)) (fun _ hk => hk.2) (.slice Ao121 t424.length co121)) (fun _ h_ => h_.1))) (Kd.R_base ho0) hb); have n2_ := Aside0.mk (Kd.R_elder' (by (with_reducible repeat (first | apply Kd.R_alloc | apply Kd.R_drewN | apply Kd.R_drew)); exact (Kd.R_mono (Kd.R_far (p := ⟨gb427, 1, none⟩) (Kd.R_far (p := ⟨gb427, 0, none⟩) (Kd.R_types HO419.out BK427.out (by decide)) (fun _ hk => hk.2) (.slice Ao118 t421.length co118)) (fun _ hk => hk.2) (.slice Ao121 t424.length co121)) (fun _ h_ => h_.1))) (Kd.R_base ho0) hb); have n3_ := Aside0.mk (Kd.R_elder' (by (with_reducible repeat (first | apply Kd.R_alloc | apply Kd.R_drewN | apply Kd.R_drew)); exact (Kd.R_mono (Kd.R_far (p := ⟨gb427, 1, none⟩) (Kd.R_far (p := ⟨gb427, 0, none⟩) (Kd.R_types HO423.out BK427.out (by decide)) (fun _ hk => hk.2) (.slice Ao118 t421.length co118)) (fun _ hk => hk.2) (.slice Ao121 t424.length co121)) (fun _ h_ => h_.1))) (Kd.R_base ho0) hb); have n4_ := Aside0.mk (Kd.R_elder' (by (with_reducible repeat (first | apply Kd.R_alloc | apply Kd.R_drewN | apply Kd.R_drew)); exact (Kd.R_mono (Kd.R_far (p := ⟨gb427, 1, none⟩) (Kd.R_far (p := ⟨gb427, 0, none⟩) (Kd.R_types HO426.out BK427.out (by decide)) (fun _ hk => hk.2) (.slice Ao118 t421.length co118)) (fun _ hk => hk.2) (.slice Ao121 t424.length co121)) (fun _ h_ => h_.1))) (Kd.R_base ho0) hb); have n5_ := Aside0.mk (Kd.R_lower (Kd.R_new' (Kd.R_new' (Kd.R_new' (Kd.R_new' (Kd.R_new' ho0 (Kd.R_lt (by (with_reducible repeat (first | apply Kd.R_alloc | apply Kd.R_drewN | apply Kd.R_drew)); exact (Kd.R_mono (Kd.R_far (p := ⟨gb427, 1, none⟩) (Kd.R_far (p := ⟨gb427, 0, none⟩) (Kd.R_types HO413.out BK427.out (by decide)) (fun _ hk => hk.2) (.slice Ao118 t421.length co118)) (fun _ hk => hk.2) (.slice Ao121 t424.length co121)) (fun _ h_ => h_.1))))) (Kd.R_lt (by (with_reducible repeat (first | apply Kd.R_alloc | apply Kd.R_drewN | apply Kd.R_drew)); exact (Kd.R_mono (Kd.R_far (p := ⟨gb427, 1, none⟩) (Kd.R_far (p := ⟨gb427, 0, none⟩) (Kd.R_types HO416.out BK427.out (by decide)) (fun _ hk => hk.2) (.slice Ao118 t421.length co118)) (fun _ hk => hk.2) (.slice Ao121 t424.length co121)) (fun _ h_ => h_.1))))) (Kd.R_lt (by (with_reducible repeat (first | apply Kd.R_alloc | apply Kd.R_drewN | apply Kd.R_drew)); exact (Kd.R_mono (Kd.R_far (p := ⟨gb427, 1, none⟩) (Kd.R_far (p := ⟨gb427, 0, none⟩) (Kd.R_types HO419.out BK427.out (by decide)) (fun _ hk => hk.2) (.slice Ao118 t421.length co118)) (fun _ hk => hk.2) (.slice Ao121 t424.length co121)) (fun _ h_ => h_.1))))) (Kd.R_lt (by (with_reducible repeat (first | apply Kd.R_alloc | apply Kd.R_drewN | apply Kd.R_drew)); exact (Kd.R_mono (Kd.R_far (p := ⟨gb427, 1, none⟩) (Kd.R_far (p := ⟨gb427, 0, none⟩) (Kd.R_types HO423.out BK427.out (by decide)) (fun _ hk => hk.2) (.slice Ao118 t421.length co118)) (fun _ hk => hk.2) (.slice Ao121 t424.length co121)) (fun _ h_ => h_.1))))) (Kd.R_lt (by (with_reducible repeat (first | apply Kd.R_alloc | apply Kd.R_drewN | apply Kd.R_drew)); exact (Kd.R_mono (Kd.R_far (p := ⟨gb427, 1, none⟩) (Kd.R_far (p := ⟨gb427, 0, none⟩) (Kd.R_types HO426.out BK427.out (by decide)) (fun _ hk => hk.2) (.slice Ao118 t421.length co118)) (fun _ hk => hk.2) (.slice Ao121 t424.length co121)) (fun _ h_ => h_.1))))) (below_size (by repeat (first | (with_reducible first | exact HB.out | apply below_alloc | apply pw_below_drewN | apply below_drew1 | refine below_set ?_ GE409.out | refine below_set ?_ GE427.out) | exact HB.out)))); have n6_ := Aside0.mk (blk_below (g := gb409) (o := .cells #[.slice A0_0 l0_0.length c0_0, .slice A0_1 l0_1.length c0_1] 35 (0, 0)) (by (with_reducible repeat (first | refine blk_drewN ?_ _ | refine blk_drew ?_ | refine blk_alloc ?_ _)); refine blk_far ?_ NB409_427.out _; (with_reducible repeat (first | refine blk_drewN ?_ _ | refine blk_drew ?_ | refine blk_alloc ?_ _)); refine blk_far ?_ NB409_427.out _; (with_reducible repeat (first | refine blk_drewN ?_ _ | refine blk_drew ?_ | refine blk_alloc ?_ _)); exact BK409.out) hb); have n7_ := Aside0.mk (blk_below (g := gb427) (o := .cells #[.slice Ao118 t421.length co118, .slice Ao121 t424.length co121] 38 (0, 0)) (by (with_reducible repeat (first | refine blk_drewN ?_ _ | refine blk_drew ?_ | refine blk_alloc ?_ _)); refine blk_put (cs := #[.slice Ao118 t421.length co118, .slice none 0 0]) ?_ 1 _ rfl; (with_reducible repeat (first | refine blk_drewN ?_ _ | refine blk_drew ?_ | refine blk_alloc ?_ _)); refine blk_put (cs := #[.slice none 0 0, .slice none 0 0]) ?_ 0 _ rfl; (with_reducible repeat (first | refine blk_drewN ?_ _ | refine blk_drew ?_ | refine blk_alloc ?_ _)); exact BK427.out) hb); have n8_ := Aside0.mk (below_step (by repeat (first | (with_reducible first | exact HB.out | apply below_alloc | apply pw_below_drewN | apply below_drew1 | refine below_set ?_ GE409.out | refine below_set ?_ GE427.out) | exact HB.out)) hb); clear HO413; clear HO416; clear HO419; clear HO423; clear HO426; clear BK409; clear BK427; clear HB; have HO413 := n0_; have HO416 := n1_; have HO419 := n2_; have HO423 := n3_; have HO426 := n4_; have HO430 := n5_; have BK409 := n6_; have BK427 := n7_; have HB := n8_; clear n0_ n1_ n2_ n3_ n4_ n5_ n6_ n7_ n8_; (try clear hb); (try clear hb2); (try clear hk); (try clear hi); (try clear ho0); have hcz123_0 : w122.cell? ⟨gb427, 0, none⟩ = some (.slice Ao118 t421.length co118) := (blk_cell BK427.out 0).trans rfl; have hcz123_1 : w122.cell? ⟨gb427, 1, none⟩ = some (.slice Ao121 t424.length co121) := (blk_cell BK427.out 1).trans rfl; have hfz123_0 := blk_frozen BK427.out 0; have hfz123_1 := blk_frozen BK427.out 1; obtain ⟨Ao124, co124, eo124⟩ := Kd.R_slice HO430.out; subst eo124) | ((with_reducible refine gate_callee (f := 23) rfl ?_); refine goesL_ (some 29) rfl rfl Tryd.func23 (by kernel_rfl) rfl #[.agg #[.slice Ao118 t421.length co118, .slice Ao121 t424.length co121], .slice Ao124 t428.length co124] rfl (by (try simp only [List.map_toArray, List.map_cons, List.map_nil]); first | done | rfl | (simp only [List.length_drop, List.length_take]; rfl)) ?_; (with_reducible refine (impl_KostkaNumber.calls k _ _ t421 _ _ t424 _ _ t428 t431 _ ?side1 ?side2 ?side3 ?side4 ?side5 ?side6 A15.out).mono ?_); (case side1 => repeat (first | exact (Kd.R_reads' HO423.out).2.2 | (with_reducible refine Kd.C_alloc ?_ _) | (with_reducible refine Kd.C_drewN ?_ _) | (with_reducible refine Kd.C_drew ?_))); (case side2 => exact (Kd.R_reads' HO423.out).2.1); (case side3 => repeat (first | exact (Kd.R_reads' HO426.out).2.2 | (with_reducible refine Kd.C_alloc ?_ _) | (with_reducible refine Kd.C_drewN ?_ _) | (with_reducible refine Kd.C_drew ?_))); (case side4 => exact (Kd.R_reads' HO426.out).2.1); (case side5 => repeat (first | exact (Kd.R_reads' HO430.out).2.2 | (with_reducible refine Kd.C_alloc ?_ _) | (with_reducible refine Kd.C_drewN ?_ _) | (with_reducible refine Kd.C_drew ?_))); (case side6 => exact (Kd.R_reads' HO430.out).2.1); rintro e w125 ⟨rfl, hb⟩; refine ⟨_, rfl, ?_⟩; have n0_ := Aside0.mk (Kd.R_below (by (with_reducible repeat (first | apply Kd.R_alloc | apply Kd.R_drewN | apply Kd.R_drew)); exact HO413.out) hb); have n1_ := Aside0.mk (Kd.R_below (by (with_reducible repeat (first | apply Kd.R_alloc | apply Kd.R_drewN | apply Kd.R_drew)); exact HO416.out) hb); have n2_ := Aside0.mk (Kd.R_below (by (with_reducible repeat (first | apply Kd.R_alloc | apply Kd.R_drewN | apply Kd.R_drew)); exact HO419.out) hb); have n3_ := Aside0.mk (Kd.R_below (by (with_reducible repeat (first | apply Kd.R_alloc | apply Kd.R_drewN | apply Kd.R_drew)); exact HO423.out) hb); have n4_ := Aside0.mk (Kd.R_below (by (with_reducible repeat (first | apply Kd.R_alloc | apply Kd.R_drewN | apply Kd.R_drew)); exact HO426.out) hb); have n5_ := Aside0.mk (Kd.R_below (by (with_reducible repeat (first | apply Kd.R_alloc | apply Kd.R_drewN | apply Kd.R_drew)); exact HO430.out) hb); have n6_ := Aside0.mk (blk_below (g := gb409) (o := .cells #[.slice A0_0 l0_0.length c0_0, .slice A0_1 l0_1.length c0_1] 35 (0, 0)) (by (with_reducible repeat (first | refine blk_drewN ?_ _ | refine blk_drew ?_ | refine blk_alloc ?_ _)); exact BK409.out) hb); have n7_ := Aside0.mk (blk_below (g := gb427) (o := .cells #[.slice Ao118 t421.length co118, .slice Ao121 t424.length co121] 38 (0, 0)) (by (with_reducible repeat (first | refine blk_drewN ?_ _ | refine blk_drew ?_ | refine blk_alloc ?_ _)); exact BK427.out) hb); have n8_ := Aside0.mk (below_step (by repeat (first | (with_reducible first | exact HB.out | apply below_alloc | apply pw_below_drewN | apply below_drew1 | refine below_set ?_ GE409.out | refine below_set ?_ GE427.out) | exact HB.out)) hb); clear HO413; clear HO416; clear HO419; clear HO423; clear HO426; clear HO430; clear BK409; clear BK427; clear HB; have HO413 := n0_; have HO416 := n1_; have HO419 := n2_; have HO423 := n3_; have HO426 := n4_; have HO430 := n5_; have BK409 := n6_; have BK427 := n7_; have HB := n8_; clear n0_ n1_ n2_ n3_ n4_ n5_ n6_ n7_ n8_; (try clear hb); (try clear hb2); (try clear hk); (try clear hi)))
    go_ret
    exact ⟨by first | rfl | (simp [errW_none, errW_some] <;> rfl) | (simp [*, errW_none, errW_some] <;> rfl), by repeat (first | (with_reducible first | exact HB.out | apply below_alloc | apply pw_below_drewN | apply below_drew1 | refine below_set ?_ GE409.out | refine below_set ?_ GE427.out) | exact HB.out)⟩
end Go.Proofs.YtppkfgcnmaifmaaDoor.Hb
namespace Go.Proofs.YtppkfgcnmaifmaaDoor.Hb
open Go.RowKit Go.Proofs.YtppkfgcnmaifmaaDoorW.PrintWords Go.Proofs.YtppkfgcnmaifmaaDoorW.PrintLast Go.Proofs.YtppkfgcnmaifmaaDoorW.PrintMore
attribute [local go_sem] max2_int min2_int max_two min_two max_three min_three max_four min_four
set_option linter.unusedVariables false
set_option linter.unusedSimpArgs false
open Pu
theorem w64 (n : Int) (h1 : -9223372036854775808 ≤ n) (h2 : n ≤ 9223372036854775807) : wrap64 n = n := by unfold wrap64; omega
theorem rd_mid (pre : List Int) (x : Int) (rest : List Int) : rd (pre ++ x :: rest) (pre.length : Int) = x := by simp [rd]
theorem rd_nat (l : List Int) (i : Nat) : rd l (i : Int) = l.getD i 0 := by simp [rd]
theorem rd_before (pre rest : List Int) (h : 0 < pre.length) : rd (pre ++ rest) ((pre.length : Int) - 1) = pre.getD (pre.length - 1) 0 := by
  rw [show ((pre.length : Int) - 1) = ((pre.length - 1 : Nat) : Int) by omega, rd_nat, getD_before pre rest 0 h]
theorem len_snoc (pre : List Int) (x : Int) : ((pre ++ [x]).length : Int) = (pre.length : Int) + 1 := by simp
theorem within_eq (a lo hi : Int) : impl_within.f a lo hi = some (decide (lo ≤ a ∧ a ≤ hi)) := by
  unfold impl_within.f
  by_cases h : lo ≤ a <;> simp [h]
theorem in_eq (a lo hi : Int) : spec_l1In.f a lo hi = some (decide (lo ≤ a ∧ a ≤ hi)) := by
  unfold spec_l1In.f
  by_cases h : lo ≤ a <;> simp [h]
theorem sum_l0 (l : List Int) (hl : l.length ≤ 10000000) : ∀ (rest pre : List Int) (acc : Int), l = pre ++ rest → (∀ x ∈ rest, 0 ≤ x ∧ x ≤ 9) → 0 ≤ acc → acc ≤ 9 * pre.length → Evs (fun k => impl_sum.l0 k acc l (l.length : Int) (pre.length : Int)) (acc + rest.sum)
  | [], pre, acc, e, _, _, _ => by
    have h : ¬ (pre.length : Int) < (l.length : Int) := by rw [e]; simp
    refine Evs.succ ?_
    simp only [impl_sum.l0, if_neg h]
    exact (Evs.pure _).same (by simp)
  | x :: rest, pre, acc, e, hx, h0, h1 => by
    have hlen : pre.length < l.length := by rw [e]; simp
    have h2 : (pre.length : Int) < (l.length : Int) := by omega
    have h3 : (0 : Int) ≤ (pre.length : Int) := by omega
    have hr : rd l (pre.length : Int) = x := by rw [e, rd_mid]
    have hxx := hx x (List.mem_cons_self ..)
    have e1 : wrap64 (acc + x) = acc + x := w64 _ (by omega) (by omega)
    have e2 : wrap64 ((pre.length : Int) + 1) = ((pre ++ [x]).length : Int) := by rw [len_snoc]; exact w64 _ (by omega) (by omega)
    refine Evs.succ ?_
    simp only [impl_sum.l0, if_pos h2, if_pos h3, hr, e1, e2]
    exact (sum_l0 l hl rest (pre ++ [x]) (acc + x) (by rw [e]; simp) (fun y hy => hx y (List.mem_cons_of_mem _ hy)) (by omega) (by rw [len_snoc]; omega)).same (by simp; omega)
theorem sum_ev (l : List Int) (hl : l.length ≤ 10000000) (h : ∀ x ∈ l, 0 ≤ x ∧ x ≤ 9) : Evs (fun k => impl_sum.f k l) l.sum := by
  unfold impl_sum.f
  exact (sum_l0 l hl l [] 0 rfl h (Int.le_refl _) (by simp)).same (by simp)
theorem size_l0 (l : List Int) (hl : l.length ≤ 10000000) : ∀ (rest pre : List Int) (acc : Int), l = pre ++ rest → (∀ x ∈ rest, 0 ≤ x ∧ x ≤ 9) → 0 ≤ acc → acc ≤ 9 * pre.length → Evs (fun k => spec_l2Size.l0 k l acc (pre.length : Int)) (acc + rest.sum)
  | [], pre, acc, e, _, _, _ => by
    have h : ¬ (pre.length : Int) < (l.length : Int) := by rw [e]; simp
    refine Evs.succ ?_
    simp only [spec_l2Size.l0, if_neg h]
    exact (Evs.pure _).same (by simp)
  | x :: rest, pre, acc, e, hx, h0, h1 => by
    have hlen : pre.length < l.length := by rw [e]; simp
    have h2 : (pre.length : Int) < (l.length : Int) := by omega
    have h3 : (0 : Int) ≤ (pre.length : Int) := by omega
    have hr : rd l (pre.length : Int) = x := by rw [e, rd_mid]
    have hxx := hx x (List.mem_cons_self ..)
    have e1 : wrap64 (acc + x) = acc + x := w64 _ (by omega) (by omega)
    have e2 : wrap64 ((pre.length : Int) + 1) = ((pre ++ [x]).length : Int) := by rw [len_snoc]; exact w64 _ (by omega) (by omega)
    refine Evs.succ ?_
    simp only [spec_l2Size.l0, if_pos h2, if_pos h3, hr, e1, e2]
    exact (size_l0 l hl rest (pre ++ [x]) (acc + x) (by rw [e]; simp) (fun y hy => hx y (List.mem_cons_of_mem _ hy)) (by omega) (by rw [len_snoc]; omega)).same (by simp; omega)
theorem size_ev (l : List Int) (hl : l.length ≤ 10000000) (h : ∀ x ∈ l, 0 ≤ x ∧ x ≤ 9) : Evs (fun k => spec_l2Size.f k l) l.sum := by
  unfold spec_l2Size.f
  exact (size_l0 l hl l [] 0 rfl h (Int.le_refl _) (by simp)).same (by simp)
theorem ipart_j1 (l : List Int) (all x len i : Int) (b : Bool) (R : Bool) (ha : 0 ≤ all ∧ all ≤ 9) (hx : b = false → 1 ≤ x ∧ x ≤ 9) (hR : b = false → all + x ≤ 9 → Evs (fun k => impl_IsPartition.l0 k l (all + x) l len (wrap64 (i + 1))) R) :
    Evs (fun k => impl_IsPartition.j1 k l all x l len i b) (if b = true then false else if all + x > 9 then false else R) := by
  refine Evs.succ ?_
  cases b with
  | true => simp only [impl_IsPartition.j1, if_true]; exact Evs.pure _
  | false =>
    have hx := hx rfl
    have e : wrap64 (all + x) = all + x := w64 _ (by omega) (by omega)
    simp only [impl_IsPartition.j1, e, Bool.false_eq_true, if_false]
    by_cases h : all + x > 9
    · simp only [if_pos h]; exact Evs.pure _
    · simp only [if_neg h]; exact hR rfl (by omega)
theorem ipart_l0 (l : List Int) (hl : l.length ≤ 10000000) : ∀ (rest pre : List Int) (all : Int), l = pre ++ rest → 0 ≤ all ∧ all ≤ 9 → Evs (fun k => impl_IsPartition.l0 k l all l (l.length : Int) (pre.length : Int)) (chk pre all rest)
  | [], pre, all, e, _ => by
    have h : ¬ (pre.length : Int) < (l.length : Int) := by rw [e]; simp
    refine Evs.succ ?_
    simp only [impl_IsPartition.l0, if_neg h]
    exact Evs.pure _
  | x :: rest, pre, all, e, ha => by
    have hlen : pre.length < l.length := by rw [e]; simp
    have h2 : (pre.length : Int) < (l.length : Int) := by omega
    have h3 : (0 : Int) ≤ (pre.length : Int) := by omega
    have hr : rd l (pre.length : Int) = x := by rw [e, rd_mid]
    have e2 : wrap64 ((pre.length : Int) + 1) = ((pre ++ [x]).length : Int) := by rw [len_snoc]; exact w64 _ (by omega) (by omega)
    have e3 : wrap64 ((pre.length : Int) - 1) = (pre.length : Int) - 1 := w64 _ (by omega) (by omega)
    have ih : 1 ≤ x → all + x ≤ 9 → Evs (fun k => impl_IsPartition.l0 k l (all + x) l (l.length : Int) (wrap64 ((pre.length : Int) + 1))) (chk (pre ++ [x]) (all + x) rest) := fun h1 h2 => by
      rw [e2]
      exact ipart_l0 l hl rest (pre ++ [x]) (all + x) (by rw [e]; simp) ⟨by omega, h2⟩
    refine Evs.succ ?_
    simp only [impl_IsPartition.l0, if_pos h2, if_pos h3, hr, within_eq, Option.bind_some]
    by_cases c1 : 1 ≤ x ∧ x ≤ 9
    · simp only [decide_eq_true c1, if_true]
      by_cases c0 : (pre.length : Int) > 0
      · have h4 : (0 : Int) ≤ (pre.length : Int) - 1 := by omega
        have h5 : (pre.length : Int) - 1 < (l.length : Int) := by omega
        have hb : rd l ((pre.length : Int) - 1) = pre.getD (pre.length - 1) 0 := by rw [e, rd_before pre _ (by omega)]
        simp only [if_pos c0, e3, if_pos h4, if_pos h5, hb]
        refine (ipart_j1 l all x (l.length : Int) (pre.length : Int) _ (chk (pre ++ [x]) (all + x) rest) ha (fun _ => c1) (fun _ h => ih c1.1 h)).same ?_
        rw [chk_cons]
        by_cases c2 : x ≤ pre.getD (pre.length - 1) 0
        · rw [if_neg (by rw [decide_eq_true_eq]; omega)]
          by_cases c3 : all + x > 9
          · rw [if_pos c3, if_neg (by omega)]
          · rw [if_neg c3, if_pos ⟨c1, fun _ => c2, by omega⟩]
        · rw [if_pos (by rw [decide_eq_true_eq]; omega), if_neg (fun h => c2 (h.2.1 (by omega)))]
      · simp only [if_neg c0]
        refine (ipart_j1 l all x (l.length : Int) (pre.length : Int) false (chk (pre ++ [x]) (all + x) rest) ha (fun _ => c1) (fun _ h => ih c1.1 h)).same ?_
        rw [chk_cons]
        simp only [Bool.false_eq_true, if_false]
        by_cases c3 : all + x > 9
        · rw [if_pos c3, if_neg (by omega)]
        · rw [if_neg c3, if_pos ⟨c1, fun h => absurd h (by omega), by omega⟩]
    · simp only [decide_eq_false c1, Bool.false_eq_true, if_false]
      refine (ipart_j1 l all x (l.length : Int) (pre.length : Int) true true ha (fun h => by cases h) (fun h => by cases h)).same ?_
      rw [chk_cons]
      rw [if_pos rfl, if_neg (fun h => c1 h.1)]
theorem ipart_ev (l : List Int) (hl : l.length ≤ 10000000) : Evs (fun k => impl_IsPartition.f k l) (isPt l) := by
  unfold impl_IsPartition.f isPt
  exact ipart_l0 l hl l [] 0 rfl ⟨by omega, by omega⟩
theorem spart_j1 (l : List Int) (all x i : Int) (b : Bool) (R : Bool) (h0 : 0 ≤ i) (h1 : i < (l.length : Int)) (hr : rd l i = x) (ha : 0 ≤ all ∧ all ≤ 9) (hx : b = false → 1 ≤ x ∧ x ≤ 9) (hR : b = false → all + x ≤ 9 → Evs (fun k => spec_IsPartition.l0 k l (all + x) (wrap64 (i + 1))) R) :
    Evs (fun k => spec_IsPartition.j1 k l all i b) (if b = true then false else if all + x > 9 then false else R) := by
  refine Evs.succ ?_
  cases b with
  | true => simp only [spec_IsPartition.j1, if_true]; exact Evs.pure _
  | false =>
    have hx := hx rfl
    have e : wrap64 (all + x) = all + x := w64 _ (by omega) (by omega)
    simp only [spec_IsPartition.j1, if_pos h0, if_pos h1, hr, e, Bool.false_eq_true, if_false]
    by_cases h : all + x > 9
    · simp only [if_pos h]; exact Evs.pure _
    · simp only [if_neg h]; exact hR rfl (by omega)
theorem spart_l0 (l : List Int) (hl : l.length ≤ 10000000) : ∀ (rest pre : List Int) (all : Int), l = pre ++ rest → 0 ≤ all ∧ all ≤ 9 → Evs (fun k => spec_IsPartition.l0 k l all (pre.length : Int)) (chk pre all rest)
  | [], pre, all, e, _ => by
    have h : ¬ (pre.length : Int) < (l.length : Int) := by rw [e]; simp
    refine Evs.succ ?_
    simp only [spec_IsPartition.l0, if_neg h]
    exact Evs.pure _
  | x :: rest, pre, all, e, ha => by
    have hlen : pre.length < l.length := by rw [e]; simp
    have h2 : (pre.length : Int) < (l.length : Int) := by omega
    have h3 : (0 : Int) ≤ (pre.length : Int) := by omega
    have hr : rd l (pre.length : Int) = x := by rw [e, rd_mid]
    have e2 : wrap64 ((pre.length : Int) + 1) = ((pre ++ [x]).length : Int) := by rw [len_snoc]; exact w64 _ (by omega) (by omega)
    have e3 : wrap64 ((pre.length : Int) - 1) = (pre.length : Int) - 1 := w64 _ (by omega) (by omega)
    have ih : 1 ≤ x → all + x ≤ 9 → Evs (fun k => spec_IsPartition.l0 k l (all + x) (wrap64 ((pre.length : Int) + 1))) (chk (pre ++ [x]) (all + x) rest) := fun h1 h2 => by
      rw [e2]
      exact spart_l0 l hl rest (pre ++ [x]) (all + x) (by rw [e]; simp) ⟨by omega, h2⟩
    refine Evs.succ ?_
    simp only [spec_IsPartition.l0, if_pos h2, if_pos h3, hr, in_eq, Option.bind_some]
    by_cases c1 : 1 ≤ x ∧ x ≤ 9
    · simp only [decide_eq_true c1, if_true]
      by_cases c0 : (pre.length : Int) > 0
      · have h4 : (0 : Int) ≤ (pre.length : Int) - 1 := by omega
        have h5 : (pre.length : Int) - 1 < (l.length : Int) := by omega
        have hb : rd l ((pre.length : Int) - 1) = pre.getD (pre.length - 1) 0 := by rw [e, rd_before pre _ (by omega)]
        simp only [if_pos c0, e3, if_pos h4, if_pos h5, hb]
        refine (spart_j1 l all x (pre.length : Int) _ (chk (pre ++ [x]) (all + x) rest) h3 h2 hr ha (fun _ => c1) (fun _ h => ih c1.1 h)).same ?_
        rw [chk_cons]
        by_cases c2 : x ≤ pre.getD (pre.length - 1) 0
        · rw [if_neg (by rw [decide_eq_true_eq]; omega)]
          by_cases c3 : all + x > 9
          · rw [if_pos c3, if_neg (by omega)]
          · rw [if_neg c3, if_pos ⟨c1, fun _ => c2, by omega⟩]
        · rw [if_pos (by rw [decide_eq_true_eq]; omega), if_neg (fun h => c2 (h.2.1 (by omega)))]
      · simp only [if_neg c0]
        refine (spart_j1 l all x (pre.length : Int) false (chk (pre ++ [x]) (all + x) rest) h3 h2 hr ha (fun _ => c1) (fun _ h => ih c1.1 h)).same ?_
        rw [chk_cons]
        simp only [Bool.false_eq_true, if_false]
        by_cases c3 : all + x > 9
        · rw [if_pos c3, if_neg (by omega)]
        · rw [if_neg c3, if_pos ⟨c1, fun h => absurd h (by omega), by omega⟩]
    · simp only [decide_eq_false c1, Bool.false_eq_true, if_false]
      refine (spart_j1 l all x (pre.length : Int) true true h3 h2 hr ha (fun h => by cases h) (fun h => by cases h)).same ?_
      rw [chk_cons]
      rw [if_pos rfl, if_neg (fun h => c1 h.1)]
theorem spart_ev (l : List Int) (hl : l.length ≤ 10000000) : Evs (fun k => spec_IsPartition.f k l) (isPt l) := by
  unfold spec_IsPartition.f isPt
  exact spart_l0 l hl l [] 0 rfl ⟨by omega, by omega⟩
end Go.Proofs.YtppkfgcnmaifmaaDoor.Hb
namespace Go.Proofs.YtppkfgcnmaifmaaDoor.Hb
open Go.RowKit Go.Proofs.YtppkfgcnmaifmaaDoorW.PrintWords Go.Proofs.YtppkfgcnmaifmaaDoorW.PrintLast Go.Proofs.YtppkfgcnmaifmaaDoorW.PrintMore
attribute [local go_sem] max2_int min2_int max_two min_two max_three min_three max_four min_four
set_option linter.unusedVariables false
set_option linter.unusedSimpArgs false
open Pu
theorem at_nat (l : List Int) (i : Nat) (hl : l.length ≤ 4000000) : impl_at.f l (i : Int) = some (l.getD i 0) := by
  rw [impl_grow.at_eq l _ hl, Gr.atL_nat]
theorem iins_l0 (p q : List Int) (hp : p.length ≤ 4000000) (hq : q.length ≤ 4000000) : ∀ (rest pre : List Int), q = pre ++ rest → Evs (fun k => impl_IsInside.l0 k p q (q.length : Int) (pre.length : Int)) (insR p pre.length rest)
  | [], pre, e => by
    have h : ¬ (pre.length : Int) < (q.length : Int) := by rw [e]; simp
    refine Evs.succ ?_
    simp only [impl_IsInside.l0, if_neg h]
    exact Evs.pure _
  | x :: rest, pre, e => by
    have hlen : pre.length < q.length := by rw [e]; simp
    have h2 : (pre.length : Int) < (q.length : Int) := by omega
    have h3 : (0 : Int) ≤ (pre.length : Int) := by omega
    have hr : rd q (pre.length : Int) = x := by rw [e, rd_mid]
    have e2 : wrap64 ((pre.length : Int) + 1) = ((pre ++ [x]).length : Int) := by rw [len_snoc]; exact w64 _ (by omega) (by omega)
    refine Evs.succ ?_
    simp only [impl_IsInside.l0, if_pos h2, if_pos h3, hr, at_nat p _ hp, Option.bind_some, e2]
    unfold insR
    by_cases c : x > p.getD pre.length 0
    · simp only [if_pos c]; exact Evs.pure _
    · simp only [if_neg c]
      have := iins_l0 p q hp hq rest (pre ++ [x]) (by rw [e]; simp)
      rw [List.length_append, List.length_singleton] at this
      simpa using this
theorem iins_j0 (p q : List Int) (hp : p.length ≤ 4000000) (hq : q.length ≤ 4000000) (b : Bool) : Evs (fun k => impl_IsInside.j0 k q p b) (!b && insR p 0 q) := by
  refine Evs.succ ?_
  cases b with
  | true => simp only [impl_IsInside.j0, if_true]; exact Evs.pure _
  | false =>
    simp only [impl_IsInside.j0, Bool.false_eq_true, if_false]
    exact iins_l0 p q hp hq q [] rfl
theorem iins_ev (q p : List Int) (hq : q.length ≤ 4000000) (hp : p.length ≤ 4000000) : Evs (fun k => impl_IsInside.f k q p) (inside q p) := by
  unfold impl_IsInside.f
  rw [inside_eq]
  refine (ipart_ev q (by omega)).bind ?_
  cases hA : isPt q with
  | false =>
    simp only [Bool.false_eq_true, if_false]
    exact (iins_j0 p q hp hq true).same (by simp)
  | true =>
    simp only [if_true]
    refine (ipart_ev p (by omega)).bind ?_
    exact (iins_j0 p q hp hq _).same (by cases isPt p <;> simp)
theorem ishape_ev (o i : List Int) (ho : o.length ≤ 4000000) (hi : i.length ≤ 4000000) : Evs (fun k => impl_IsShape.f k o i) (inside i o) := by
  unfold impl_IsShape.f
  exact (iins_ev i o hi ho).bind (Evs.pure _)
theorem sins_l0 (p q : List Int) (hl : q.length ≤ p.length) (hp : p.length ≤ 4000000) : ∀ (rest pre : List Int), q = pre ++ rest → Evs (fun k => spec_IsInside.l0 k q p (pre.length : Int)) (insR p pre.length rest)
  | [], pre, e => by
    have h : ¬ (pre.length : Int) < (q.length : Int) := by rw [e]; simp
    refine Evs.succ ?_
    simp only [spec_IsInside.l0, if_neg h]
    exact Evs.pure _
  | x :: rest, pre, e => by
    have hlen : pre.length < q.length := by rw [e]; simp
    have h2 : (pre.length : Int) < (q.length : Int) := by omega
    have h4 : (pre.length : Int) < (p.length : Int) := by omega
    have h3 : (0 : Int) ≤ (pre.length : Int) := by omega
    have hr : rd q (pre.length : Int) = x := by rw [e, rd_mid]
    have e2 : wrap64 ((pre.length : Int) + 1) = ((pre ++ [x]).length : Int) := by rw [len_snoc]; exact w64 _ (by omega) (by omega)
    refine Evs.succ ?_
    simp only [spec_IsInside.l0, if_pos h2, if_pos h3, if_pos h4, hr, rd_nat p, e2]
    unfold insR
    by_cases c : x > p.getD pre.length 0
    · simp only [if_pos c]; exact Evs.pure _
    · simp only [if_neg c]
      have := sins_l0 p q hl hp rest (pre ++ [x]) (by rw [e]; simp)
      rw [List.length_append, List.length_singleton] at this
      simpa using this
theorem sins_j0 (p q : List Int) (hp : p.length ≤ 4000000) (b : Bool) (hb : b = false → q.length ≤ p.length) : Evs (fun k => spec_IsInside.j0 k q p b) (!b && insR p 0 q) := by
  refine Evs.succ ?_
  cases b with
  | true => simp only [spec_IsInside.j0, if_true]; exact Evs.pure _
  | false =>
    simp only [spec_IsInside.j0, Bool.false_eq_true, if_false]
    exact sins_l0 p q (hb rfl) hp q [] rfl
theorem sins_ev (q p : List Int) (hq : q.length ≤ 4000000) (hp : p.length ≤ 4000000) : Evs (fun k => spec_IsInside.f k q p) (inside q p) := by
  unfold spec_IsInside.f
  refine (spart_ev q (by omega)).bind ?_
  cases hA : isPt q with
  | false =>
    simp only [Bool.false_eq_true, if_false]
    exact (sins_j0 p q hp true (fun h => by cases h)).same (by rw [inside_eq, hA]; rfl)
  | true =>
    simp only [if_true]
    refine (spart_ev p (by omega)).bind ?_
    cases hB : isPt p with
    | false =>
      simp only [Bool.false_eq_true, if_false]
      exact (sins_j0 p q hp true (fun h => by cases h)).same (by rw [inside_eq, hA, hB]; rfl)
    | true =>
      simp only [if_true]
      by_cases c : q.length ≤ p.length
      · have h : ¬ (q.length : Int) > (p.length : Int) := by omega
        exact (sins_j0 p q hp _ (fun _ => c)).same (by rw [inside_eq, hA, hB, decide_eq_false h]; rfl)
      · have h : (q.length : Int) > (p.length : Int) := by omega
        refine (sins_j0 p q hp _ (fun h2 => absurd (decide_eq_true h) (by rw [h2]; simp))).same ?_
        rw [decide_eq_true h]
        simp only [Bool.not_true, Bool.false_and]
        symm
        rw [← Bool.not_eq_true, inside_iff]
        rintro ⟨h1, h2, h3⟩
        exact c (inside_len h1 h3)
theorem sshape_ev (o i : List Int) (ho : o.length ≤ 4000000) (hi : i.length ≤ 4000000) : Evs (fun k => spec_IsShape.f k o i) (inside i o) := by
  unfold spec_IsShape.f
  exact (sins_ev i o hi ho).bind (Evs.pure _)
theorem nn_of {p : List Int} (h : Part p) : ∀ x ∈ p, 0 ≤ x ∧ x ≤ 9 := fun x hx => by have := h.le x hx; omega
theorem count_ev (o i : List Int) (ho : o.length ≤ 4000000) (hi : i.length ≤ 4000000) : Evs (fun k => impl_CellCount.f k o i) (if inside i o = true then o.sum - i.sum else -1) := by
  unfold impl_CellCount.f
  refine (ishape_ev o i ho hi).bind ?_
  cases h : inside i o with
  | false => simp only [Bool.false_eq_true, if_false]; exact Evs.pure _
  | true =>
    obtain ⟨h1, h2, h3⟩ := (inside_iff i o).1 h
    simp only [if_true]
    refine (sum_ev o (by omega) (nn_of h2)).bind ((sum_ev i (by omega) (nn_of h1)).bind ?_)
    have a1 := h1.sum
    have a2 := h2.sum
    have a3 := sum_ge i h1.pos
    have a4 := sum_ge o h2.pos
    exact (Evs.pure _).same (w64 _ (by omega) (by omega))
end Go.Proofs.YtppkfgcnmaifmaaDoor.Hb
namespace Go.Proofs.YtppkfgcnmaifmaaDoor.Hb
open Go.RowKit Go.Proofs.YtppkfgcnmaifmaaDoorW.PrintWords Go.Proofs.YtppkfgcnmaifmaaDoorW.PrintLast Go.Proofs.YtppkfgcnmaifmaaDoorW.PrintMore
attribute [local go_sem] max2_int min2_int max_two min_two max_three min_three max_four min_four
set_option linter.unusedVariables false
set_option linter.unusedSimpArgs false
open Pu
theorem rdL_nat (l : List (List Int)) (i : Nat) : rd_L3 l (i : Int) = l.getD i [] := by simp [rd_L3]
structure Full (outer inner : List Int) (rows : List (List Int)) : Prop where
  k : ∃ k : Int, k ≤ 10 ∧ Gr.Good outer inner rows k
  full : ∀ i : Nat, i < outer.length → Gr.col inner rows i = outer.getD i 0
  inn : inside inner outer = true
theorem Full.len {outer inner : List Int} {rows : List (List Int)} (h : Full outer inner rows) : rows.length = outer.length ∧ outer.length ≤ 9 ∧ inner.length ≤ outer.length := by
  obtain ⟨k, _, hg⟩ := h.k
  obtain ⟨h1, h2, h3⟩ := (inside_iff _ _).1 h.inn
  exact ⟨hg.len, h2.len, hg.ilen⟩
theorem Full.part {outer inner : List Int} {rows : List (List Int)} (h : Full outer inner rows) : Part inner ∧ Part outer := by
  obtain ⟨h1, h2, h3⟩ := (inside_iff _ _).1 h.inn
  exact ⟨h1, h2⟩
theorem Full.row {outer inner : List Int} {rows : List (List Int)} (h : Full outer inner rows) (i : Nat) : (rows.getD i []).length ≤ 9 := by
  obtain ⟨hl, h9, _⟩ := h.len
  by_cases hi : i < outer.length
  · have h1 := h.full i hi
    have h2 := (getD_nn h.part.1 i).1
    have h3 := (getD_nn h.part.2 i).2
    unfold Gr.col at h1
    rw [Gr.atL_nat] at h1
    omega
  · simp [List.getD, show rows.length ≤ i by omega]
theorem shape_l0 {outer inner : List Int} {rows : List (List Int)} (h : Full outer inner rows) : ∀ d i : Nat, i + d = rows.length →
    Evs (fun f => impl_ShapeOf.l0 f rows (rows.length : Int) (i : Int) inner rows ((List.range i).map (Gr.col inner rows)) inner) (outer, inner, true)
  | 0, i, e => by
    obtain ⟨hl, h9, hil⟩ := h.len
    have h1 : ¬ (i : Int) < (rows.length : Int) := by omega
    have hc : (List.range i).map (Gr.col inner rows) = outer := by
      apply List.ext_getElem
      · simp; omega
      · intro j h2 h3
        rw [List.getElem_map, List.getElem_range, h.full j h3]
        simp [List.getD, h3]
    refine Evs.succ ?_
    simp only [impl_ShapeOf.l0, if_neg h1, hc]
    refine (ishape_ev outer inner (by omega) (by omega)).bind ?_
    rw [h.inn]
    simp only [if_true]
    exact Evs.pure _
  | d + 1, i, e => by
    obtain ⟨hl, h9, hil⟩ := h.len
    have h1 : (i : Int) < (rows.length : Int) := by omega
    have h0 : (0 : Int) ≤ (i : Int) := by omega
    have h2 : ((List.range i).map (Gr.col inner rows)).length < 17592186044416 := by simp; omega
    have h3 := getD_nn h.part.1 i
    have h4 := h.row i
    have e1 : wrap64 (inner.getD i 0 + ((rows.getD i []).length : Int)) = Gr.col inner rows i := by
      rw [w64 _ (by omega) (by omega)]
      unfold Gr.col
      rw [Gr.atL_nat]
    have e2 : wrap64 ((i : Int) + 1) = ((i + 1 : Nat) : Int) := by rw [w64 _ (by omega) (by omega)]; omega
    have e3 : (List.range i).map (Gr.col inner rows) ++ [Gr.col inner rows i] = (List.range (i + 1)).map (Gr.col inner rows) := by rw [List.range_succ]; simp
    refine Evs.succ ?_
    simp only [impl_ShapeOf.l0, if_pos h1, if_pos h0, at_nat inner i (by omega), Option.bind_some, if_pos h2, rdL_nat, e1, e2, e3]
    exact shape_l0 h d (i + 1) (by omega)
theorem shape_ev {outer inner : List Int} {rows : List (List Int)} (h : Full outer inner rows) : Evs (fun f => impl_ShapeOf.f f inner rows) (outer, inner, true) := by
  obtain ⟨hl, h9, hil⟩ := h.len
  unfold impl_ShapeOf.f
  refine (ipart_ev inner (by omega)).bind ?_
  rw [(isPt_iff _).2 h.part.1]
  have h1 : ¬ (inner.length : Int) > (rows.length : Int) := by omega
  simp only [if_true, decide_eq_false h1]
  refine Evs.succ ?_
  have h2 : slices_Clone_int_int.f inner = some inner := by unfold slices_Clone_int_int.f; rw [if_pos (by omega)]
  simp only [impl_ShapeOf.j0, Bool.false_eq_true, if_false, h2, Option.bind_some]
  exact shape_l0 h rows.length 0 (by omega)
theorem tab_l1 {outer inner : List Int} {rows : List (List Int)} (h : Full outer inner rows) (i : Nat) (hi : i < rows.length) (hnext : Evs (fun f => impl_IsTableau.l0 f rows (rows.length : Int) ((i + 1 : Nat) : Int) inner rows) true) : ∀ d j : Nat, j + d = (rows.getD i []).length →
    Evs (fun f => impl_IsTableau.l1 f (i : Int) (rows.getD i []) rows (rows.length : Int) (i : Int) (rows.getD i []) ((rows.getD i []).length : Int) (j : Int) inner rows) true
  | 0, j, e => by
    obtain ⟨hl, h9, hil⟩ := h.len
    have h1 : ¬ (j : Int) < ((rows.getD i []).length : Int) := by omega
    have e2 : wrap64 ((i : Int) + 1) = ((i + 1 : Nat) : Int) := by rw [w64 _ (by omega) (by omega)]; omega
    refine Evs.succ ?_
    simp only [impl_IsTableau.l1, if_neg h1, e2]
    exact hnext
  | d + 1, j, e => by
    obtain ⟨hl, h9, hil⟩ := h.len
    obtain ⟨k, hk, hg⟩ := h.k
    have hr9 := h.row i
    have hrs : ∀ r ∈ rows, r.length ≤ 4000000 := fun r hr => by
      obtain ⟨n, hn, rfl⟩ := List.getElem_of_mem hr
      have := h.row n
      rw [List.getD_eq_getElem?_getD, List.getElem?_eq_getElem hn, Option.getD_some] at this
      omega
    have h1 : (j : Int) < ((rows.getD i []).length : Int) := by omega
    have h0 : (0 : Int) ≤ (j : Int) := by omega
    have e2 : wrap64 ((j : Int) + 1) = ((j + 1 : Nat) : Int) := by rw [w64 _ (by omega) (by omega)]; omega
    have hx := hg.ent i _ (Gr.getD_mem (rows.getD i []) j 0 (by omega))
    have hw : (1 : Int) ≤ (rows.getD i []).getD j 0 ∧ (rows.getD i []).getD j 0 ≤ 9 := by omega
    have hi3 := getD_nn h.part.1 i
    have rest := tab_l1 h i hi hnext d (j + 1) (by omega)
    have hent : ∀ f : Nat, 0 < i → (impl_at.f inner (i : Int)).bind (fun t => (impl_Tableau_entry.f inner rows (wrap64 ((i : Int) - 1)) (wrap64 (t + (j : Int)))).bind fun t2 => if (rows.getD i []).getD j 0 ≤ t2 then some false else impl_IsTableau.l1 f (i : Int) (rows.getD i []) rows (rows.length : Int) (i : Int) (rows.getD i []) ((rows.getD i []).length : Int) ((j + 1 : Nat) : Int) inner rows) = impl_IsTableau.l1 f (i : Int) (rows.getD i []) rows (rows.length : Int) (i : Int) (rows.getD i []) ((rows.getD i []).length : Int) ((j + 1 : Nat) : Int) inner rows := by
      intro f h0i
      rw [at_nat inner i (by omega), Option.bind_some, w64 _ (by omega) (by omega), w64 _ (by omega) (by omega), impl_grow.entry_eq inner rows i _ (by omega) (by omega) (by omega) hrs (nn_of h.part.1) (by omega), Option.bind_some]
      have hs := hg.str i h0i j (by omega)
      rw [if_neg (by omega)]
    refine Evs.succ ?_
    simp only [impl_IsTableau.l1, if_pos h1, if_pos h0, rd_nat, within_eq, Option.bind_some, decide_eq_true hw, if_true, e2]
    by_cases hj : (j : Int) > 0
    · have e3 : wrap64 ((j : Int) - 1) = ((j - 1 : Nat) : Int) := by rw [w64 _ (by omega) (by omega)]; omega
      have h4 : (0 : Int) ≤ ((j - 1 : Nat) : Int) := by omega
      have h5 : ((j - 1 : Nat) : Int) < ((rows.getD i []).length : Int) := by omega
      have hwk : ¬ (rows.getD i []).getD j 0 < (rows.getD i []).getD (j - 1) 0 := by
        have hp := List.pairwise_iff_getElem.1 (hg.wk i) (j - 1) j (by omega) (by omega) (by omega)
        rw [List.getD_eq_getElem?_getD, List.getElem?_eq_getElem (by omega), List.getD_eq_getElem?_getD (i := j - 1), List.getElem?_eq_getElem (by omega), Option.getD_some, Option.getD_some]
        omega
      simp only [if_pos hj, e3, if_pos h4, if_pos h5, rd_nat, if_neg hwk]
      by_cases hi0 : (i : Int) > 0
      · simp only [if_pos hi0, hent _ (by omega)]
        exact rest
      · simp only [if_neg hi0]
        exact rest
    · simp only [if_neg hj]
      by_cases hi0 : (i : Int) > 0
      · simp only [if_pos hi0, hent _ (by omega)]
        exact rest
      · simp only [if_neg hi0]
        exact rest
theorem tab_l0 {outer inner : List Int} {rows : List (List Int)} (h : Full outer inner rows) : ∀ d i : Nat, i + d = rows.length → Evs (fun f => impl_IsTableau.l0 f rows (rows.length : Int) (i : Int) inner rows) true
  | 0, i, e => by
    have h1 : ¬ (i : Int) < (rows.length : Int) := by omega
    refine Evs.succ ?_
    simp only [impl_IsTableau.l0, if_neg h1]
    exact Evs.pure _
  | d + 1, i, e => by
    have h1 : (i : Int) < (rows.length : Int) := by omega
    have h0 : (0 : Int) ≤ (i : Int) := by omega
    refine Evs.succ ?_
    simp only [impl_IsTableau.l0, if_pos h1, if_pos h0, rdL_nat]
    exact tab_l1 h i (by omega) (tab_l0 h d (i + 1) (by omega)) (rows.getD i []).length 0 (by omega)
theorem tab_ev {outer inner : List Int} {rows : List (List Int)} (h : Full outer inner rows) : Evs (fun f => impl_IsTableau.f f inner rows) true := by
  unfold impl_IsTableau.f
  refine (shape_ev h).bind ?_
  simp only [if_true]
  exact tab_l0 h rows.length 0 (by omega)
def digB (x : Int) : ByteArray := ⟨#[Gr.digit x]⟩
theorem fmt_eq (x : Int) (h : 1 ≤ x ∧ x ≤ 9) : impl_FormatInt.f x = some (digB x) := by
  unfold impl_FormatInt.f strconv_Itoa_96.f
  rw [if_pos (by omega), Option.bind_some]
  have : Go.Lib.decDigits x.toNat = [Gr.digit x] := by
    rw [Go.Lib.decDigits, dif_pos (by omega)]; rfl
  rw [this]; rfl
theorem joined_l0 {r : ByteArray} (by_ : ByteArray) (l : List Int) (hl : l.length ≤ 1000) (hx : ∀ x ∈ l, 1 ≤ x ∧ x ≤ 9) : ∀ (rest pre : List Int), l = pre ++ rest → Evs (fun f => (impl_Join.f (l.map digB) by_)) r → Evs (fun f => impl_joined.l0 f by_ (pre.map digB) l (l.length : Int) (pre.length : Int)) r
  | [], pre, e, hr => by
    have h : ¬ (pre.length : Int) < (l.length : Int) := by rw [e]; simp
    refine Evs.succ ?_
    simp only [impl_joined.l0, if_neg h]
    rw [e, List.append_nil] at hr
    refine hr.bind (Evs.pure _)
  | x :: rest, pre, e, hr => by
    have hlen : pre.length < l.length := by rw [e]; simp
    have h2 : (pre.length : Int) < (l.length : Int) := by omega
    have h3 : (0 : Int) ≤ (pre.length : Int) := by omega
    have hrd : rd l (pre.length : Int) = x := by rw [e, rd_mid]
    have hxx := hx x (by rw [e]; simp)
    have h4 : (pre.map digB).length < 8796093022208 := by rw [List.length_map]; omega
    have e2 : wrap64 ((pre.length : Int) + 1) = ((pre ++ [x]).length : Int) := by rw [len_snoc]; exact w64 _ (by omega) (by omega)
    have e3 : pre.map digB ++ [digB x] = (pre ++ [x]).map digB := by simp
    refine Evs.succ ?_
    simp only [impl_joined.l0, if_pos h2, if_pos h3, hrd, fmt_eq x hxx, Option.bind_some, if_pos h4, e2, e3]
    exact joined_l0 by_ l hl hx rest (pre ++ [x]) (by rw [e]; simp) hr
theorem inter_nil : ∀ l : List (List UInt8), List.intercalate [] l = l.flatten
  | [] => rfl
  | [x] => by simp [List.intercalate, List.intersperse]
  | x :: y :: l => by
    rw [Gr.inter_cons, inter_nil (y :: l)]
    simp
theorem flat_dig : ∀ l : List Int, ((l.map digB).map fun b => b.data.toList).flatten = l.map Gr.digit
  | [] => rfl
  | x :: l => by
    rw [List.map_cons, List.map_cons, List.flatten_cons, flat_dig l]
    rfl
theorem joined_ev (l : List Int) (hl : l.length ≤ 1000) (hx : ∀ x ∈ l, 1 ≤ x ∧ x ≤ 9) : Evs (fun f => impl_joined.f f l ⟨#[]⟩) ⟨(l.map Gr.digit).toArray⟩ := by
  unfold impl_joined.f
  refine joined_l0 ⟨#[]⟩ l hl hx l [] rfl ?_
  have hj : Go.Lib.join ((l.map digB).map fun b => b.data.toList) (⟨#[]⟩ : ByteArray).data.toList = l.map Gr.digit := by
    show List.intercalate [] _ = _
    rw [inter_nil, flat_dig]
  refine Evs.of fun _ => ?_
  unfold impl_Join.f strings_Join.f
  rw [hj, if_pos ⟨by rw [List.length_map]; omega, by rw [List.length_map]; omega⟩]
  rfl
theorem repeatL_one (c : UInt8) : ∀ n, Go.Lib.repeatL [c] n = List.replicate n c
  | 0 => rfl
  | n + 1 => by rw [List.replicate_succ, ← repeatL_one c n]; rfl
def lineB (inner : List Int) (rows : List (List Int)) (i : Nat) : ByteArray := (⟨(List.replicate (inner.getD i 0).toNat (46 : UInt8)).toArray⟩ : ByteArray) ++ ⟨((rows.getD i []).map Gr.digit).toArray⟩
theorem lineB_data (inner : List Int) (rows : List (List Int)) (i : Nat) : (lineB inner rows i).data.toList = Gr.line inner i (rows.getD i []) := by
  unfold lineB Gr.line
  rw [ByteArray.data_append]
  simp
theorem text_l0 {outer inner : List Int} {rows : List (List Int)} (h : Full outer inner rows) : ∀ d i : Nat, i + d = rows.length →
    Evs (fun f => impl_TableauText.l0 f ((List.range i).map (lineB inner rows)) rows (rows.length : Int) (i : Int) inner rows) ⟨(List.intercalate [47] (Gr.lines inner rows)).toArray⟩
  | 0, i, e => by
    obtain ⟨hl, h9, hil⟩ := h.len
    have h1 : ¬ (i : Int) < (rows.length : Int) := by omega
    have hi : i = rows.length := by omega
    refine Evs.succ ?_
    simp only [impl_TableauText.l0, if_neg h1]
    refine Evs.of fun _ => ?_
    have hm : ((List.range i).map (lineB inner rows)).map (fun b => b.data.toList) = Gr.lines inner rows := by
      rw [List.map_map, hi]
      unfold Gr.lines
      apply List.map_congr_left
      intro j _
      exact lineB_data inner rows j
    have hj : Go.Lib.join (((List.range i).map (lineB inner rows)).map fun b => b.data.toList) (⟨#[47]⟩ : ByteArray).data.toList = List.intercalate [47] (Gr.lines inner rows) := by rw [hm]; rfl
    have hlen : ∀ l : List (List UInt8), (∀ x ∈ l, x.length ≤ 100) → (List.intercalate [47] l).length ≤ 101 * l.length := by
      intro l
      induction l with
      | nil => intro _; simp [List.intercalate]
      | cons x l ih =>
        intro hx
        have h1 := hx x (List.mem_cons_self ..)
        cases l with
        | nil => simp [List.intercalate, List.intersperse]; omega
        | cons y l =>
          have h2 := ih fun z hz => hx z (List.mem_cons_of_mem _ hz)
          rw [Gr.inter_cons]
          simp only [List.length_append, List.length_cons, List.length_nil] at h2 ⊢
          omega
    have hll := hlen (Gr.lines inner rows) (fun x hx => by
      unfold Gr.lines at hx
      obtain ⟨j, _, rfl⟩ := List.mem_map.1 hx
      unfold Gr.line
      have a1 := (getD_nn h.part.1 j).2
      have a2 := h.row j
      simp only [List.length_append, List.length_replicate, List.length_map]
      omega)
    unfold impl_Join.f strings_Join.f
    rw [hj, if_pos ⟨by simp; omega, by unfold Gr.lines at hll; rw [List.length_map, List.length_range] at hll; unfold Gr.lines; omega⟩]
    rfl
  | d + 1, i, e => by
    obtain ⟨hl, h9, hil⟩ := h.len
    obtain ⟨k, hk, hg⟩ := h.k
    have h1 : (i : Int) < (rows.length : Int) := by omega
    have h0 : (0 : Int) ≤ (i : Int) := by omega
    have hi3 := getD_nn h.part.1 i
    have hr9 := h.row i
    have e2 : wrap64 ((i : Int) + 1) = ((i + 1 : Nat) : Int) := by rw [w64 _ (by omega) (by omega)]; omega
    have hrep : strings_Repeat.f (⟨#[46]⟩ : ByteArray) (inner.getD i 0) = some ⟨(List.replicate (inner.getD i 0).toNat (46 : UInt8)).toArray⟩ := by
      unfold strings_Repeat.f
      rw [if_pos ⟨hi3.1, by omega, by show 1 * _ ≤ _; omega⟩]
      rw [show (⟨#[46]⟩ : ByteArray).data.toList = [46] from rfl, repeatL_one]
    have h5 : (⟨(List.replicate (inner.getD i 0).toNat (46 : UInt8)).toArray⟩ : ByteArray).size + (⟨((rows.getD i []).map Gr.digit).toArray⟩ : ByteArray).size ≤ 9223372036854775807 := by
      simp only [ByteArray.size, List.size_toArray, List.length_replicate, List.length_map]; omega
    have h6 : ((List.range i).map (lineB inner rows)).length < 8796093022208 := by simp; omega
    have e3 : (List.range i).map (lineB inner rows) ++ [lineB inner rows i] = (List.range (i + 1)).map (lineB inner rows) := by rw [List.range_succ]; simp
    refine Evs.succ ?_
    simp only [impl_TableauText.l0, if_pos h1, if_pos h0, at_nat inner i (by omega), Option.bind_some, hrep, rdL_nat]
    refine (joined_ev (rows.getD i []) (by omega) (fun x hx => by have := hg.ent i x hx; omega)).bind ?_
    simp only [if_pos h5, if_pos h6, e2]
    rw [show (⟨(List.replicate (inner.getD i 0).toNat (46 : UInt8)).toArray⟩ : ByteArray) ++ ⟨((rows.getD i []).map Gr.digit).toArray⟩ = lineB inner rows i from rfl, e3]
    exact text_l0 h d (i + 1) (by omega)
theorem text_ev {outer inner : List Int} {rows : List (List Int)} (h : Full outer inner rows) : Evs (fun f => impl_TableauText.f f inner rows) ⟨(Gr.txt inner rows).toArray⟩ := by
  unfold impl_TableauText.f
  refine (tab_ev h).bind ?_
  simp only [if_true]
  by_cases h0 : (rows.length : Int) = 0
  · simp only [if_pos h0]
    have : rows = [] := List.eq_nil_of_length_eq_zero (by omega)
    subst this
    exact Evs.pure _
  · simp only [if_neg h0]
    have hne : rows ≠ [] := fun e => h0 (by rw [e]; rfl)
    unfold Gr.txt
    rw [if_neg hne]
    exact text_l0 h rows.length 0 (by omega)
end Go.Proofs.YtppkfgcnmaifmaaDoor.Hb
namespace Go.Proofs.YtppkfgcnmaifmaaDoor.Hb
open Go.RowKit Go.Proofs.YtppkfgcnmaifmaaDoorW.PrintWords Go.Proofs.YtppkfgcnmaifmaaDoorW.PrintLast Go.Proofs.YtppkfgcnmaifmaaDoorW.PrintMore
attribute [local go_sem] max2_int min2_int max_two min_two max_three min_three max_four min_four
set_option linter.unusedVariables false
set_option linter.unusedSimpArgs false
open Pu
theorem putL_small {B : Nat} (fin : List (List Int) → List (List (List Int))) (outer inner : List Int) (ho : outer.length ≤ 9) (k : Int) (hf : ∀ rows, (fin rows).length ≤ B) : ∀ (left : Nat) (rows : List (List Int)) (row : Nat), (Gr.putL fin outer inner k left rows row).length ≤ 9 ^ left * B
  | 0, rows, _ => by
    rw [Nat.pow_zero, Nat.one_mul]
    exact hf rows
  | left + 1, rows, row => by
    unfold Gr.putL
    rw [List.length_flatMap]
    have h : ∀ l : List Nat, (l.map fun i => (if Gr.skip outer inner rows k i = true then [] else Gr.putL fin outer inner k left (rows.set i (rows.getD i [] ++ [k])) i).length).sum ≤ l.length * (9 ^ left * B) := by
      intro l
      induction l with
      | nil => simp
      | cons i l ih =>
        rw [List.map_cons, List.sum_cons, List.length_cons, Nat.succ_mul]
        have : (if Gr.skip outer inner rows k i = true then [] else Gr.putL fin outer inner k left (rows.set i (rows.getD i [] ++ [k])) i).length ≤ 9 ^ left * B := by
          split
          · simp
          · exact putL_small fin outer inner ho k hf left _ _
        omega
    have h1 := h (List.range' row (outer.length - row))
    rw [List.length_range'] at h1
    refine Nat.le_trans h1 ?_
    rw [Nat.pow_succ, Nat.mul_comm (9 ^ left) 9, Nat.mul_assoc]
    exact Nat.mul_le_mul_right _ (by omega)
theorem growL_small (outer inner : List Int) (ho : outer.length ≤ 9) : ∀ (ws : List Int) (rows : List (List Int)) (k : Int), (Gr.growL outer inner ws rows k).length ≤ 9 ^ (ws.map Int.toNat).sum
  | [], rows, k => by simp [Gr.growL]
  | w :: ws, rows, k => by
    unfold Gr.growL
    have h := putL_small (B := 9 ^ (ws.map Int.toNat).sum) (fun rows => Gr.growL outer inner ws rows (k + 1)) outer inner ho k (fun rows => growL_small outer inner ho ws rows (k + 1)) w.toNat rows 0
    rw [List.map_cons, List.sum_cons, Nat.pow_add]
    exact h
structure Fills (outer inner ws : List Int) : Prop where
  inn : inside inner outer = true
  len : ws.length ≤ 9
  nn : ∀ x ∈ ws, 0 ≤ x
  sum : ws.sum = outer.sum - inner.sum
theorem Fills.start {outer inner ws : List Int} (h : Fills outer inner ws) : Gr.Good outer inner (List.replicate outer.length []) 1 := by
  obtain ⟨h1, h2, h3⟩ := (inside_iff _ _).1 h.inn
  exact Gr.good_start (inside_len h1 h3) (fun x hx => by have := h1.pos x hx; omega) h1.dec' h3
theorem Fills.total {outer inner ws : List Int} (h : Fills outer inner ws) : (ws.map Int.toNat).sum ≤ 9 ∧ (((ws.map Int.toNat).sum : Nat) : Int) = outer.sum - inner.sum := by
  obtain ⟨h1, h2, h3⟩ := (inside_iff _ _).1 h.inn
  have e := Gr.toNat_sum ws h.nn
  have a1 := h2.sum
  have a2 := sum_ge inner h1.pos
  have a3 := h.sum
  exact ⟨by omega, by omega⟩
theorem Fills.full {outer inner ws : List Int} (h : Fills outer inner ws) : ∀ r ∈ impl_tableaux.all outer inner ws, Full outer inner r := fun r hr => by
  obtain ⟨g, c⟩ := Gr.growL_good ws _ 1 h.start r hr
  rw [Gr.cells_start] at c
  have ht := h.total.2
  exact ⟨⟨_, by have := h.len; omega, g⟩, Gr.good_full g (by omega), h.inn⟩
theorem nil_full : Full [] [] [] := by
  refine ⟨⟨1, by omega, ⟨rfl, Nat.le_refl _, ?_, ?_, Int.le_refl _, ?_, ?_, ?_, ?_, ?_⟩⟩, ?_, by decide⟩
  · intro x h; cases h
  · intro i; simp
  · intro i h; simp at h
  · intro i h; simp at h
  · intro i x h; simp at h
  · intro i; simp
  · intro i _ j h; simp at h
  · intro i h; simp at h
theorem tableaux_fine {outer inner ws : List Int} (h : Fills outer inner ws) : ∃ K, ∀ k, K ≤ k → impl_tableaux.fine k outer inner ws = true := by
  obtain ⟨h1, h2, h3⟩ := (inside_iff _ _).1 h.inn
  obtain ⟨K1, hK1⟩ := text_ev nil_full
  obtain ⟨K2, hK2⟩ := Evs.all (g := fun r f => impl_TableauText.f f inner r) (f := fun r => ⟨(Gr.txt inner r).toArray⟩) (impl_tableaux.all outer inner ws) fun r hr => text_ev (h.full r hr)
  refine ⟨max K1 K2, fun k hk => ?_⟩
  have ht := h.total
  unfold impl_tableaux.fine
  simp only [Bool.and_eq_true, List.all_eq_true, decide_eq_true_eq]
  refine ⟨⟨⟨⟨⟨⟨⟨⟨nn_of h2, nn_of h1⟩, ?_⟩, ?_⟩, h.nn⟩, ?_⟩, ?_⟩, ?_⟩, ⟨?_, ?_⟩, ?_⟩
  · have := h2.len; omega
  · have := h1.len; omega
  · have := h.len; omega
  · unfold impl_grow.total; omega
  · have h4 := growL_small outer inner h2.len ws (List.replicate outer.length []) 1
    have h5 : 9 ^ (ws.map Int.toNat).sum ≤ 9 ^ 9 := Nat.pow_le_pow_right (by decide) ht.1
    have h6 : 9 ^ 9 < 2000000000 := by decide
    exact Nat.lt_of_le_of_lt (Nat.le_trans h4 h5) h6
  · have e1 : impl_TableauText.f k [] [] = _ := hK1 k (by omega)
    rw [e1]; rfl
  · intro r hr
    have e2 : impl_TableauText.f k inner r = _ := hK2 k (by omega) r hr
    rw [e2]; rfl
  · exact Gr.txts_nodup ws h.len h.nn h.start h.sum
theorem tableaux_ev {outer inner ws : List Int} (h : Fills outer inner ws) (hw : ∀ x ∈ ws, x ≤ 9) : Evs (fun f => impl_tableaux.f f outer inner ws) (impl_tableaux.sorted outer inner ws) := by
  obtain ⟨h1, h2, h3⟩ := (inside_iff _ _).1 h.inn
  have a1 := h1.len
  have a2 := h2.len
  have a3 := h.len
  unfold impl_tableaux.f
  refine (sum_ev ws (by omega) (fun x hx => ⟨h.nn x hx, hw x hx⟩)).bind ((count_ev outer inner (by omega) (by omega)).bind ?_)
  rw [if_pos h.inn]
  have hne : ¬ ws.sum ≠ outer.sum - inner.sum := by rw [h.sum]; simp
  simp only [if_neg hne]
  obtain ⟨K, hK⟩ := tableaux_fine h
  exact ⟨K, fun k hk => if_pos (hK k hk)⟩
theorem tableaux_none {outer inner ws : List Int} (hi : inside inner outer = true) (hl : ws.length ≤ 9) (hw : ∀ x ∈ ws, 0 ≤ x ∧ x ≤ 9) (hs : ws.sum ≠ outer.sum - inner.sum) : Evs (fun f => impl_tableaux.f f outer inner ws) [] := by
  obtain ⟨h1, h2, h3⟩ := (inside_iff _ _).1 hi
  have a1 := h1.len
  have a2 := h2.len
  unfold impl_tableaux.f
  refine (sum_ev ws (by omega) hw).bind ((count_ev outer inner (by omega) (by omega)).bind ?_)
  rw [if_pos hi]
  simp only [if_pos hs]
  exact Evs.pure _
theorem sorted_length (outer inner ws : List Int) : (impl_tableaux.sorted outer inner ws).length = (impl_tableaux.all outer inner ws).length := by
  unfold impl_tableaux.sorted
  rw [List.length_map, List.length_mergeSort]
end Go.Proofs.YtppkfgcnmaifmaaDoor.Hb
namespace Go.Proofs.YtppkfgcnmaifmaaDoor.Hb
open Go.RowKit Go.Proofs.YtppkfgcnmaifmaaDoorW.PrintWords Go.Proofs.YtppkfgcnmaifmaaDoorW.PrintLast Go.Proofs.YtppkfgcnmaifmaaDoorW.PrintMore
attribute [local go_sem] max2_int min2_int max_two min_two max_three min_three max_four min_four
set_option linter.unusedVariables false
set_option linter.unusedSimpArgs false
open Pu
theorem rdL_last (c : List (List Int)) (p : List Int) : rd_L3 (c ++ [p]) (((c ++ [p]).length : Int) - 1) = p := by
  unfold rd_L3
  have : (((c ++ [p]).length : Int) - 1).toNat = c.length := by simp
  rw [this]
  simp [List.getD]
def chains (outer inner : List Int) : List Int → List (List Int) → Int → List (List Int) → List (List (List Int))
  | [], rows, _, chain => [chain]
  | _ :: ws, rows, k, chain => (List.range outer.length).flatMap fun r => if Gr.skip outer inner rows k r then [] else chains outer inner ws (Gr.push rows r k) (k + 1) (chain ++ [Gr.ptn outer inner (Gr.push rows r k)])
end Go.Proofs.YtppkfgcnmaifmaaDoor.Hb
namespace Go.Proofs.YtppkfgcnmaifmaaDoor.Hb
open Go.RowKit Go.Proofs.YtppkfgcnmaifmaaDoorW.PrintWords Go.Proofs.YtppkfgcnmaifmaaDoorW.PrintLast Go.Proofs.YtppkfgcnmaifmaaDoorW.PrintMore
attribute [local go_sem] max2_int min2_int max_two min_two max_three min_three max_four min_four
set_option linter.unusedVariables false
set_option linter.unusedSimpArgs false
open Pu
theorem sum_ones (m : Nat) : (List.replicate m (1 : Int)).sum = m := by
  induction m with
  | zero => rfl
  | succ m ih => rw [List.replicate_succ, List.sum_cons, ih]; omega
theorem ones_fills {outer inner : List Int} (h : inside inner outer = true) : Fills outer inner (List.replicate (outer.sum - inner.sum).toNat 1) ∧ 0 ≤ outer.sum - inner.sum ∧ outer.sum - inner.sum ≤ 9 := by
  obtain ⟨h1, h2, h3⟩ := (inside_iff _ _).1 h
  have a1 := h2.sum
  have a2 := sum_ge inner h1.pos
  have a3 := sum_le_of inner outer h3
  refine ⟨⟨h, by rw [List.length_replicate]; omega, fun x hx => by rw [(List.mem_replicate.1 hx).2]; omega, by rw [sum_ones]; omega⟩, by omega, by omega⟩
theorem ptn_start {outer inner : List Int} (h : inside inner outer = true) : Gr.ptn outer inner (List.replicate outer.length []) = inner := by
  obtain ⟨h1, h2, h3⟩ := (inside_iff _ _).1 h
  have hg := (ones_fills h).1.start
  refine Part.ext (Gr.ptn_part h2 hg) h1 fun i => ?_
  rw [Gr.ptn_getD hg]
  by_cases hi : i < outer.length
  · rw [if_pos hi]
    unfold Gr.col
    rw [Gr.atL_nat]
    simp [List.getD, hi]
  · rw [if_neg hi]
    have := inside_len h1 h3
    rw [getD_out inner i (by omega)]
theorem toInt_l0 (l : List Int) (hl : l.length ≤ 10000000) : ∀ (rest pre : List Int), l = pre ++ rest → Evs (fun f => laws_toIntS.l0 f l (pre ++ List.replicate rest.length 0) (pre.length : Int)) l
  | [], pre, e => by
    have h : ¬ (pre.length : Int) < (l.length : Int) := by rw [e]; simp
    refine Evs.succ ?_
    simp only [laws_toIntS.l0, if_neg h]
    exact (Evs.pure _).same (by rw [e]; simp)
  | x :: rest, pre, e => by
    have hlen : pre.length < l.length := by rw [e]; simp
    have h2 : (pre.length : Int) < (l.length : Int) := by omega
    have h3 : (0 : Int) ≤ (pre.length : Int) := by omega
    have h4 : (pre.length : Int) < ((pre ++ List.replicate (x :: rest).length 0).length : Int) := by simp; omega
    have hrd : rd l (pre.length : Int) = x := by rw [e, rd_mid]
    have e2 : wrap64 ((pre.length : Int) + 1) = ((pre ++ [x]).length : Int) := by rw [len_snoc]; exact w64 _ (by omega) (by omega)
    have e3 : (pre ++ List.replicate (x :: rest).length 0).set ((pre.length : Int) : Int).toNat x = (pre ++ [x]) ++ List.replicate rest.length 0 := by
      rw [Int.toNat_natCast, List.set_append_right _ _ (Nat.le_refl _), Nat.sub_self, List.length_cons, List.replicate_succ, List.set_cons_zero]
      simp
    refine Evs.succ ?_
    simp only [laws_toIntS.l0, if_pos h2, if_pos h3, if_pos h4, hrd, e2, e3]
    exact toInt_l0 l hl rest (pre ++ [x]) (by rw [e]; simp)
theorem toInt_ev (l : List Int) (hl : l.length ≤ 10000000) : Evs (fun f => laws_toIntS.f f l) l := by
  have h1 : (0 : Int) ≤ (l.length : Int) := by omega
  have h2 : ((l.length : Int) : Int).toNat ≤ 35184372088832 := by omega
  unfold laws_toIntS.f
  simp only [if_pos h1, if_pos h2]
  rw [Int.toNat_natCast]
  exact toInt_l0 l hl l [] rfl
theorem toShape_ev (o i : List Int) (ho : o.length ≤ 10000000) (hi : i.length ≤ 10000000) : Evs (fun f => laws_toShape.f f o i) (o, i) := by
  unfold laws_toShape.f
  exact (toInt_ev o ho).bind ((toInt_ev i hi).bind (Evs.pure _))
theorem eqInt_l0 (l : List Int) (hl : l.length ≤ 10000000) : ∀ d i : Nat, i + d = l.length → Evs (fun f => laws_eqIntS.l0 f l l (i : Int)) true
  | 0, i, e => by
    have h : ¬ (i : Int) < (l.length : Int) := by omega
    refine Evs.succ ?_
    simp only [laws_eqIntS.l0, if_neg h]
    exact Evs.pure _
  | d + 1, i, e => by
    have h2 : (i : Int) < (l.length : Int) := by omega
    have h3 : (0 : Int) ≤ (i : Int) := by omega
    have e2 : wrap64 ((i : Int) + 1) = ((i + 1 : Nat) : Int) := by rw [w64 _ (by omega) (by omega)]; omega
    refine Evs.succ ?_
    simp only [laws_eqIntS.l0, if_pos h2, if_pos h3, if_true, e2]
    exact eqInt_l0 l hl d (i + 1) (by omega)
theorem eqInt_ev (l : List Int) (hl : l.length ≤ 10000000) : Evs (fun f => laws_eqIntS.f f l l) true := by
  unfold laws_eqIntS.f
  simp only [if_true]
  exact eqInt_l0 l hl l.length 0 (by omega)
theorem eqShape_ev (o i : List Int) (ho : o.length ≤ 10000000) (hi : i.length ≤ 10000000) : Evs (fun f => laws_eqShape.f f o i o i) true := by
  unfold laws_eqShape.f
  refine (eqInt_ev o ho).bind ?_
  simp only [if_true]
  refine (eqInt_ev i hi).bind ?_
  simp only [if_true]
  exact Evs.pure _
theorem szInt_eq (l : List Int) (a : Int) (ha : 0 ≤ a ∧ a ≤ 1048576) (hl : l.length ≤ 9223372036854775807) : laws_szIntS.f l a = some (if a - (l.length : Int) < 0 then -1 else a - (l.length : Int)) := by
  unfold laws_szIntS.f
  rw [w64 _ (by omega) (by omega)]
  split <;> rfl
theorem szShape_eq (o i : List Int) (ho : o.length ≤ 9223372036854775807) (hi : i.length ≤ 9223372036854775807) : ∃ n : Int, laws_szShape.f o i 1048576 = some n ∧ (0 ≤ n → o.length ≤ 1048576 ∧ i.length ≤ 1048576) := by
  unfold laws_szShape.f
  rw [szInt_eq o 1048576 (by omega) ho, Option.bind_some]
  by_cases h1 : (1048576 : Int) - (o.length : Int) < 0
  · rw [if_pos h1, if_pos (by omega)]
    exact ⟨-1, rfl, fun h => by omega⟩
  · rw [if_neg h1, if_neg h1, szInt_eq i _ (by omega) hi, Option.bind_some]
    by_cases h2 : (1048576 : Int) - (o.length : Int) - (i.length : Int) < 0
    · rw [if_pos h2, if_pos (by omega)]
      exact ⟨-1, rfl, fun h => by omega⟩
    · rw [if_neg h2, if_neg h2]
      exact ⟨_, rfl, fun _ => by omega⟩
end Go.Proofs.YtppkfgcnmaifmaaDoor.Hb
namespace Gr
open Pu
theorem ways_small : ∀ (cs : List Nat) (n : Nat), (∀ c ∈ cs, c ≤ 9) → (ways cs n).length ≤ 10 ^ cs.length
  | [], n, _ => by unfold ways; split <;> simp
  | c :: cs, n, h => by
    unfold ways
    rw [List.length_flatMap]
    have hc := h c (List.mem_cons_self ..)
    have key : ∀ l : List Nat, (l.map fun x => ((ways cs (n - x)).map (x :: ·)).length).sum ≤ l.length * 10 ^ cs.length := by
      intro l
      induction l with
      | nil => simp
      | cons x l ih =>
        rw [List.map_cons, List.sum_cons, List.length_cons, Nat.succ_mul, List.length_map]
        have := ways_small cs (n - x) fun d hd => h d (List.mem_cons_of_mem _ hd)
        omega
    have h1 := key (List.range (min c n + 1))
    rw [List.length_range] at h1
    refine Nat.le_trans h1 ?_
    rw [List.length_cons, Nat.pow_succ, Nat.mul_comm]
    exact Nat.mul_le_mul_left _ (by omega)
def addw (p : List Int) : Nat → List Nat → List Int
  | _, [] => []
  | row, a :: as_ => (p.getD row 0 + a) :: addw p (row + 1) as_
theorem addw_length (p : List Int) : ∀ (row : Nat) (a : List Nat), (addw p row a).length = a.length
  | _, [] => rfl
  | row, a :: as_ => by simp [addw, addw_length p (row + 1) as_]
theorem addw_getD (p : List Int) : ∀ (row : Nat) (a : List Nat) (j : Nat), j < a.length → (addw p row a).getD j 0 = p.getD (row + j) 0 + (a.getD j 0 : Nat)
  | row, a :: as_, 0, _ => by simp [addw]
  | row, a :: as_, j + 1, h => by
    have := addw_getD p (row + 1) as_ j (by simpa using h)
    simp only [addw, List.getD_cons_succ]
    rw [this, show row + 1 + j = row + (j + 1) by omega]
def capP (p outer : List Int) (i : Nat) : Nat := ((if 0 < i then min (outer.getD i 0) (p.getD (i - 1) 0) else outer.getD i 0) - p.getD i 0).toNat
def capsP (p outer : List Int) (row : Nat) : List Nat := (List.range' row (outer.length - row)).map (capP p outer)
theorem capsP_cons (p outer : List Int) (row : Nat) (h : row < outer.length) : capsP p outer row = capP p outer row :: capsP p outer (row + 1) := by
  unfold capsP
  rw [show outer.length - row = (outer.length - (row + 1)) + 1 by omega, List.range'_succ, List.map_cons]
theorem capsP_nil (p outer : List Int) (row : Nat) (h : outer.length ≤ row) : capsP p outer row = [] := by
  unfold capsP
  rw [show outer.length - row = 0 by omega]; rfl
theorem capsP_length (p outer : List Int) (row : Nat) : (capsP p outer row).length = outer.length - row := by unfold capsP; simp
theorem capP_le {p outer : List Int} (hp : Part p) (ho : Part outer) (i : Nat) : capP p outer i ≤ 9 := by
  have h1 := getD_nn ho i
  have h2 := getD_nn hp i
  have h3 := getD_nn hp (i - 1)
  unfold capP
  split <;> omega
theorem capsP_le {p outer : List Int} (hp : Part p) (ho : Part outer) (row : Nat) : ∀ c ∈ capsP p outer row, c ≤ 9 := fun c hc => by
  unfold capsP at hc
  obtain ⟨i, _, rfl⟩ := List.mem_map.1 hc
  exact capP_le hp ho i
theorem capP_eq {outer inner : List Int} {rows : List (List Int)} {k : Int} (hg : Good outer inner rows k) (i : Nat) (hi : i < outer.length) : capP (ptn outer inner rows) outer i = cap outer inner rows i := by
  have e1 := ptn_getD hg i
  rw [if_pos hi] at e1
  unfold capP cap
  rw [e1]
  by_cases h0 : 0 < i
  · have e2 := ptn_getD hg (i - 1)
    rw [if_pos (by omega)] at e2
    rw [if_pos h0, if_pos h0, e2]
  · rw [if_neg h0, if_neg h0]
theorem capsP_eq {outer inner : List Int} {rows : List (List Int)} {k : Int} (hg : Good outer inner rows k) : capsP (ptn outer inner rows) outer 0 = caps outer inner rows 0 := by
  unfold capsP caps
  apply List.map_congr_left
  intro i hi
  have := List.mem_range'_1.1 hi
  exact capP_eq hg i (by omega)
theorem addw_cols {outer inner : List Int} {rows : List (List Int)} {k : Int} (hg : Good outer inner rows k) (a : List Nat) (ha : a ∈ ways (caps outer inner rows 0) a.sum) :
    addw (ptn outer inner rows) 0 a = cols outer inner (ext k 0 rows a) := by
  obtain ⟨h2, h3⟩ := caps_le ha
  have hl : ((addw (ptn outer inner rows) 0 a)).length = outer.length := by rw [addw_length]; exact h2
  apply List.ext_getElem
  · rw [hl]; simp [cols]
  · intro j h4 h5
    have e1 := addw_getD (ptn outer inner rows) 0 a j (by rw [hl] at h4; omega)
    rw [List.getD_eq_getElem?_getD, List.getElem?_eq_getElem h4, Option.getD_some, Nat.zero_add, ptn_getD hg, if_pos (by rw [hl] at h4; exact h4)] at e1
    have e2 : (cols outer inner (ext k 0 rows a))[j] = col inner (ext k 0 rows a) j := by simp [cols]
    have e3 : col inner (ext k 0 rows a) j = col inner rows j + (a.getD j 0 : Nat) := by
      have := ext_getD k a 0 rows j (by rw [hg.len]; omega)
      exact col_put (by simpa using this)
    rw [e1, e2, e3]
theorem cols_nn {outer inner : List Int} {rows : List (List Int)} {k : Int} (hg : Good outer inner rows k) : (∀ x ∈ cols outer inner rows, 0 ≤ x) ∧ ∀ i : Nat, (cols outer inner rows).getD (i + 1) 0 ≤ (cols outer inner rows).getD i 0 := by
  refine ⟨fun x hx => ?_, fun j => ?_⟩
  · unfold cols at hx
    obtain ⟨j, _, rfl⟩ := List.mem_map.1 hx
    exact col_nonneg hg j
  · rw [cols_getD, cols_getD]
    by_cases h : j + 1 < outer.length
    · rw [if_pos h, if_pos (by omega)]; exact hg.dec j h
    · rw [if_neg h]
      split
      · exact col_nonneg hg j
      · omega
theorem cols_length (outer inner : List Int) (rows : List (List Int)) : (cols outer inner rows).length = outer.length := by simp [cols]
theorem filt_split : ∀ (l : List Int), (∀ x ∈ l, 0 ≤ x) → (∀ i : Nat, l.getD (i + 1) 0 ≤ l.getD i 0) → ∃ z : Nat, l = (l.filter fun x => decide (0 < x)) ++ List.replicate z 0
  | [], _, _ => ⟨0, rfl⟩
  | x :: l, h0, hd => by
    have h0' : ∀ y ∈ l, 0 ≤ y := fun y hy => h0 y (List.mem_cons_of_mem _ hy)
    have hd' : ∀ i : Nat, l.getD (i + 1) 0 ≤ l.getD i 0 := fun i => by have := hd (i + 1); simpa using this
    obtain ⟨z, hz⟩ := filt_split l h0' hd'
    by_cases hx : 0 < x
    · rw [List.filter_cons_of_pos (by simpa using hx)]
      exact ⟨z, by rw [List.cons_append, ← hz]⟩
    · have h1 := h0 x (List.mem_cons_self ..)
      have hx0 : x = 0 := by omega
      subst hx0
      rw [List.filter_cons_of_neg (by simp)]
      have hzz : ∀ i : Nat, l.getD i 0 ≤ 0 := by
        intro i
        induction i with
        | zero => have := hd 0; simp at this ⊢; omega
        | succ i ih => have := hd' i; omega
      have he : l.filter (fun x => decide (0 < x)) = [] := by
        rw [List.filter_eq_nil_iff]
        intro y hy
        obtain ⟨i, hi, rfl⟩ := List.getElem_of_mem hy
        have := hzz i
        rw [List.getD_eq_getElem?_getD, List.getElem?_eq_getElem hi, Option.getD_some] at this
        simpa using this
      rw [he] at hz ⊢
      exact ⟨z + 1, by rw [List.replicate_succ, List.nil_append]; congr 1⟩
theorem room_ext {outer inner : List Int} {rows : List (List Int)} {k : Int} (hg : Good outer inner rows k) (a : List Nat) (ha : a ∈ ways (caps outer inner rows 0) a.sum) :
    room outer inner (ext k 0 rows a) = room outer inner rows - (a.sum : Nat) := by
  obtain ⟨h2, h3⟩ := caps_le ha
  have hg2 := good_ext hg a h2 h3
  unfold room
  rw [ptn_sum hg, ptn_sum hg2, ext_cells k a 0 rows (by rw [hg.len]; omega)]
  omega
end Gr
namespace Go.Proofs.YtppkfgcnmaifmaaDoor.Hb
open Go.RowKit Go.Proofs.YtppkfgcnmaifmaaDoorW.PrintWords Go.Proofs.YtppkfgcnmaifmaaDoorW.PrintLast Go.Proofs.YtppkfgcnmaifmaaDoorW.PrintMore
attribute [local go_sem] max2_int min2_int max_two min_two max_three min_three max_four min_four
set_option linter.unusedVariables false
set_option linter.unusedSimpArgs false
open Pu
theorem rdL_mid (pre : List (List Int)) (x : List Int) (rest : List (List Int)) : rd_L3 (pre ++ x :: rest) (pre.length : Int) = x := by simp [rd_L3]
theorem at2_nat (l : List Int) (i : Nat) : spec_l2At.f l (i : Int) = some (l.getD i 0) := by
  unfold spec_l2At.f
  rw [if_neg (by omega)]
  by_cases h : (i : Int) ≥ (l.length : Int)
  · rw [if_pos h]
    simp [List.getD, show l.length ≤ i by omega]
  · rw [if_neg h, if_pos (by omega), if_pos (by omega), rd_nat]
theorem strips_l1 (p outer : List Int) (n row most x : Int) (R : List (List Int)) : ∀ (todo pre out : List (List Int)), pre.length + todo.length ≤ 5000000000 → out.length + todo.length ≤ 5000000000 → (∀ t ∈ todo, t.length ≤ 1000) →
    Evs (fun f => spec_l7Strips.l0 f p outer n row (out ++ todo.map (x :: ·)) most (wrap64 (x + 1))) R → Evs (fun f => spec_l7Strips.l1 f p outer n row out most x (pre ++ todo) (pre.length : Int)) R
  | [], pre, out, _, _, _, hR => by
    have h : ¬ (pre.length : Int) < ((pre ++ ([] : List (List Int))).length : Int) := by simp
    refine Evs.succ ?_
    simp only [spec_l7Strips.l1, if_neg h]
    simpa using hR
  | t :: todo, pre, out, h1, h2, h3, hR => by
    have hlen : (pre ++ t :: todo).length = pre.length + todo.length + 1 := by simp; omega
    have h : (pre.length : Int) < ((pre ++ t :: todo).length : Int) := by omega
    have h0 : (0 : Int) ≤ (pre.length : Int) := by omega
    have ht : ([x] : List Int).length + t.length < 17592186044416 := by
      have := h3 t (List.mem_cons_self ..)
      simp only [List.length_cons, List.length_nil]; omega
    rw [List.length_cons] at h1 h2
    have hout : out.length < 5864062014805 := by omega
    have e2 : wrap64 ((pre.length : Int) + 1) = ((pre ++ [t]).length : Int) := by
      rw [w64 _ (by omega) (by omega)]; simp
    refine Evs.succ ?_
    simp only [spec_l7Strips.l1, if_pos h, Option.bind_some, if_pos h0, rdL_mid, if_pos ht, if_pos hout, e2]
    rw [snoc pre t todo]
    refine strips_l1 p outer n row most x R todo (pre ++ [t]) _ (by simp; omega) (by simp; omega) (fun u hu => h3 u (List.mem_cons_of_mem _ hu)) ?_
    simpa using hR
theorem strips_l0 (p outer : List Int) (n row c : Nat) (hp : 0 ≤ p.getD row 0 ∧ p.getD row 0 ≤ 9) (hc : c ≤ 9) (hn : n ≤ 1000) (hrow : row ≤ 1000) (rest : Nat → List (List Int))
    (hr : ∀ a, a ≤ c → a ≤ n → Evs (fun f => spec_l7Strips.f f p outer ((n - a : Nat) : Int) ((row + 1 : Nat) : Int)) (rest a)) (hl : ∀ a, ∀ t ∈ rest a, t.length ≤ 1000) (hs : ∀ a, (rest a).length ≤ 100000000) :
    ∀ (d a : Nat) (out : List (List Int)), a + d = min c n + 1 → out.length + d * 100000000 ≤ 2000000000 →
      Evs (fun f => spec_l7Strips.l0 f p outer (n : Int) (row : Int) out (p.getD row 0 + (c : Int)) (p.getD row 0 + (a : Int))) (out ++ (List.range' a d).flatMap fun b => (rest b).map fun t => (p.getD row 0 + (b : Int)) :: t)
  | 0, a, out, h, _ => by
    rw [List.range'_zero, List.flatMap_nil, List.append_nil]
    by_cases hac : a ≤ c
    · have h1 : p.getD row 0 + (a : Int) ≤ p.getD row 0 + (c : Int) := by omega
      have h2 : wrap64 (p.getD row 0 + (a : Int) - p.getD row 0) = (a : Int) := by rw [w64 _ (by omega) (by omega)]; omega
      have h3 : decide ((a : Int) ≤ (n : Int)) = false := decide_eq_false (by omega)
      refine Evs.succ (Evs.succ ?_)
      simp only [spec_l7Strips.l0, spec_l7Strips.j2, if_pos h1, at2_nat, Option.bind_some, h2, h3, Bool.false_eq_true, if_false]
      exact Evs.pure _
    · have h1 : ¬ p.getD row 0 + (a : Int) ≤ p.getD row 0 + (c : Int) := by omega
      refine Evs.succ (Evs.succ ?_)
      simp only [spec_l7Strips.l0, spec_l7Strips.j2, if_neg h1, Bool.false_eq_true, if_false]
      exact Evs.pure _
  | d + 1, a, out, h, hz => by
    have hac : a ≤ c := by omega
    have han : a ≤ n := by omega
    have h1 : p.getD row 0 + (a : Int) ≤ p.getD row 0 + (c : Int) := by omega
    have h2 : wrap64 (p.getD row 0 + (a : Int) - p.getD row 0) = (a : Int) := by rw [w64 _ (by omega) (by omega)]; omega
    have h3 : decide ((a : Int) ≤ (n : Int)) = true := decide_eq_true (by omega)
    have h4 : wrap64 (wrap64 ((n : Int) - (p.getD row 0 + (a : Int))) + p.getD row 0) = ((n - a : Nat) : Int) := by
      rw [w64 ((n : Int) - _) (by omega) (by omega), w64 _ (by omega) (by omega)]; omega
    have h5 : wrap64 ((row : Int) + 1) = ((row + 1 : Nat) : Int) := by rw [w64 _ (by omega) (by omega)]; omega
    have h6 : wrap64 (p.getD row 0 + (a : Int) + 1) = p.getD row 0 + ((a + 1 : Nat) : Int) := by rw [w64 _ (by omega) (by omega)]; omega
    have hsa := hs a
    refine Evs.succ (Evs.succ ?_)
    simp only [spec_l7Strips.l0, spec_l7Strips.j2, if_pos h1, at2_nat, Option.bind_some, h2, h3, if_true, h4, h5]
    refine (hr a hac han).bind ?_
    refine strips_l1 p outer (n : Int) (row : Int) _ _ _ (rest a) [] out (by simp; omega) (by omega) (hl a) ?_
    rw [h6]
    refine (strips_l0 p outer n row c hp hc hn hrow rest hr hl hs d (a + 1) (out ++ (rest a).map (fun t => (p.getD row 0 + (a : Int)) :: t)) (by omega) (by simp; omega)).same ?_
    rw [List.range'_succ, List.flatMap_cons, List.append_assoc]
theorem strips_ev {p outer : List Int} (hp : Part p) (ho : Part outer) (hin : ∀ i : Nat, p.getD i 0 ≤ outer.getD i 0) : ∀ (d row n : Nat), row + d = outer.length → n ≤ 1000 →
    Evs (fun f => spec_l7Strips.f f p outer (n : Int) (row : Int)) ((Gr.ways (Gr.capsP p outer row) n).map (Gr.addw p row))
  | 0, row, n, h, hn => by
    have h1 : (row : Int) = (outer.length : Int) := by omega
    have h3 : ([] : List (List Int)).length < 5864062014805 := by simp
    refine Evs.succ ?_
    simp only [spec_l7Strips.f, Option.bind_some, if_pos h1]
    rw [Gr.capsP_nil _ _ _ (by omega)]
    unfold Gr.ways
    by_cases h0 : n = 0
    · subst h0
      simp only [Int.natCast_zero, if_true, if_pos h3]
      exact Evs.pure _
    · have h2 : ¬ ((n : Int) = 0) := by omega
      simp only [if_neg h2, if_neg h0]
      exact Evs.pure _
  | d + 1, row, n, h, hn => by
    have h1 : ¬ (row : Int) = (outer.length : Int) := by omega
    have h2 : (0 : Int) ≤ (row : Int) := by omega
    have h3 : (row : Int) < (outer.length : Int) := by omega
    have hol := ho.len
    have hpr := getD_nn hp row
    have hpo := hin row
    have hoo := getD_nn ho row
    have hcs := Gr.capP_le hp ho row
    have key : ∀ most : Int, most = p.getD row 0 + ((Gr.capP p outer row : Nat) : Int) → Evs (fun f => spec_l7Strips.j0 f p outer (n : Int) (row : Int) [] most) ((Gr.ways (Gr.capsP p outer row) n).map (Gr.addw p row)) := by
      rintro most rfl
      refine Evs.succ ?_
      simp only [spec_l7Strips.j0, at2_nat, Option.bind_some]
      have hl0 := strips_l0 p outer n row (Gr.capP p outer row) hpr hcs hn (by omega) (fun a => (Gr.ways (Gr.capsP p outer (row + 1)) (n - a)).map (Gr.addw p (row + 1)))
        (fun a _ _ => strips_ev hp ho hin d (row + 1) (n - a) (by omega) (by omega))
        (fun a t ht => by
          obtain ⟨b, hb, rfl⟩ := List.mem_map.1 ht
          rw [Gr.addw_length, Gr.ways_length _ _ b hb, Gr.capsP_length]
          omega)
        (fun a => by
          rw [List.length_map]
          have := Gr.ways_small (Gr.capsP p outer (row + 1)) (n - a) (Gr.capsP_le hp ho (row + 1))
          rw [Gr.capsP_length] at this
          have h8 : 10 ^ (outer.length - (row + 1)) ≤ 10 ^ 8 := Nat.pow_le_pow_right (by decide) (by omega)
          have h9 : 10 ^ 8 = 100000000 := by decide
          omega)
        (min (Gr.capP p outer row) n + 1) 0 [] (by omega) (by simp; omega)
      rw [Int.natCast_zero, Int.add_zero] at hl0
      refine hl0.same ?_
      rw [Gr.capsP_cons p outer row (by omega)]
      conv => rhs; unfold Gr.ways
      rw [List.nil_append, List.map_flatMap, List.range_eq_range']
      congr 1
      funext b
      rw [List.map_map, List.map_map]
      rfl
    refine Evs.succ ?_
    simp only [spec_l7Strips.f, Option.bind_some, if_neg h1, if_pos h2, if_pos h3]
    by_cases h0 : (row : Int) > 0
    · have e1 : wrap64 ((row : Int) - 1) = ((row - 1 : Nat) : Int) := by rw [w64 _ (by omega) (by omega)]; omega
      have hd : p.getD row 0 ≤ p.getD (row - 1) 0 := by
        have := hp.dec' (row - 1)
        rwa [show row - 1 + 1 = row by omega] at this
      have e2 : spec_l1Min.f (rd outer (row : Int)) (p.getD (row - 1) 0) = some (min (outer.getD row 0) (p.getD (row - 1) 0)) := by
        unfold spec_l1Min.f
        rw [rd_nat]
        split
        · congr 1; omega
        · congr 1; omega
      simp only [if_pos h0, e1, at2_nat, Option.bind_some, e2]
      refine key _ ?_
      unfold Gr.capP
      rw [if_pos (by omega)]
      omega
    · simp only [if_neg h0, rd_nat]
      refine key _ ?_
      unfold Gr.capP
      rw [if_neg (by omega)]
      omega
theorem trim_l0 (a : List Int) (ha : ∀ x ∈ a, 0 < x) (z : Nat) (hl : a.length + z ≤ 1000) : ∀ y : Nat, y ≤ z → Evs (fun f => spec_l7Trim.l0 f (a ++ List.replicate z 0) ((a.length + y : Nat) : Int)) a
  | 0, _ => by
    have h3 : ((a.length + 0 : Nat) : Int) ≤ ((a ++ List.replicate z (0 : Int)).length : Int) := by simp; omega
    have h4 : (0 : Int) ≤ ((a.length + 0 : Nat) : Int) := by omega
    have e : (a ++ List.replicate z (0 : Int)).take (((a.length + 0 : Nat) : Int)).toNat = a := by
      rw [Int.toNat_natCast, Nat.add_zero, List.take_left']
      rfl
    have h5 : ([] : List Int).length + a.length < 17592186044416 := by rw [List.length_nil]; omega
    refine Evs.succ ?_
    by_cases h : ((a.length + 0 : Nat) : Int) > 0
    · have e1 : wrap64 (((a.length + 0 : Nat) : Int) - 1) = ((a.length - 1 : Nat) : Int) := by rw [w64 _ (by omega) (by omega)]; omega
      have h1 : (0 : Int) ≤ ((a.length - 1 : Nat) : Int) := by omega
      have h2 : ((a.length - 1 : Nat) : Int) < ((a ++ List.replicate z (0 : Int)).length : Int) := by simp; omega
      have hne : ¬ rd (a ++ List.replicate z (0 : Int)) ((a.length - 1 : Nat) : Int) = 0 := by
        rw [rd_nat, List.getD_eq_getElem?_getD, List.getElem?_append_left (by omega), List.getElem?_eq_getElem (by omega), Option.getD_some]
        have := ha _ (List.getElem_mem (l := a) (n := a.length - 1) (by omega))
        omega
      simp only [spec_l7Trim.l0, if_pos h, e1, if_pos h1, if_pos h2, if_neg hne, Option.bind_some, if_pos h3, if_pos h4, e, if_pos h5, List.nil_append]
      exact Evs.pure _
    · simp only [spec_l7Trim.l0, if_neg h, Option.bind_some, if_pos h3, if_pos h4, e, if_pos h5, List.nil_append]
      exact Evs.pure _
  | y + 1, hy => by
    have h : ((a.length + (y + 1) : Nat) : Int) > 0 := by omega
    have e1 : wrap64 (((a.length + (y + 1) : Nat) : Int) - 1) = ((a.length + y : Nat) : Int) := by rw [w64 _ (by omega) (by omega)]; omega
    have h1 : (0 : Int) ≤ ((a.length + y : Nat) : Int) := by omega
    have h2 : ((a.length + y : Nat) : Int) < ((a ++ List.replicate z (0 : Int)).length : Int) := by simp; omega
    have he : rd (a ++ List.replicate z (0 : Int)) ((a.length + y : Nat) : Int) = 0 := by
      rw [rd_nat, List.getD_eq_getElem?_getD, List.getElem?_append_right (by omega), show a.length + y - a.length = y by omega, List.getElem?_replicate, if_pos (by omega), Option.getD_some]
    refine Evs.succ ?_
    simp only [spec_l7Trim.l0, if_pos h, e1, if_pos h1, if_pos h2, if_pos he]
    exact trim_l0 a ha z hl y (by omega)
theorem trim_ev (q : List Int) (hq : q.length ≤ 1000) (h0 : ∀ x ∈ q, 0 ≤ x) (hd : ∀ i : Nat, q.getD (i + 1) 0 ≤ q.getD i 0) : Evs (fun f => spec_l7Trim.f f q) (q.filter fun x => decide (0 < x)) := by
  obtain ⟨z, hz⟩ := Gr.filt_split q h0 hd
  have hpos : ∀ x ∈ q.filter (fun x => decide (0 < x)), 0 < x := fun x hx => of_decide_eq_true (List.mem_filter.1 hx).2
  generalize q.filter (fun x => decide (0 < x)) = a at hz hpos
  subst hz
  unfold spec_l7Trim.f
  have hl : (a ++ List.replicate z (0 : Int)).length = a.length + z := by simp
  rw [hl] at hq ⊢
  exact trim_l0 a hpos z hq z (Nat.le_refl _)
end Go.Proofs.YtppkfgcnmaifmaaDoor.Hb
