/- What the proof of the law leans on, part 4 of 6: contracts of the functions that it reaches, the words they are told in (laid by the kit's print.sh, here only as far as they are used), and what they come to. -/
import Derived.Shelf.SlicesE.IndexFunc
import Derived.Test.YtppkfgcnmaifmaaGreatDoorVd3
namespace Go.Proofs.YtppkfgcnmaifmaaGreatDoor.Hb
open Go.RowKit Go.Proofs.YtppkfgcnmaifmaaGreatDoorW.PrintWords Go.Proofs.YtppkfgcnmaifmaaGreatDoorW.PrintLast Go.Proofs.YtppkfgcnmaifmaaGreatDoorW.PrintMore
attribute [local go_sem] max2_int min2_int max_two min_two max_three min_three max_four min_four   -- for this text's walks alone
set_option linter.unusedVariables false
set_option linter.unusedSimpArgs false
def strings_Repeat.f (a0 : ByteArray) (a1 : Int) : Option (ByteArray) := if 0 ≤ a1 ∧ a1 ≤ 9223372036854775807 ∧ a0.size * a1.toNat ≤ 140737488355328 then some ⟨(Go.Lib.repeatL a0.data.toList a1.toNat).toArray⟩ else none
theorem strings_Repeat.calls (a0 : ByteArray) (a1 : Int) (r : ByteArray) (w : World) (h : strings_Repeat.f a0 a1 = some r) :
    Calls Tryz.prog 134 #[.string a0, .int .i64 a1] w fun e w' => e = .returned (.string r) ∧ Below w.heap.size w w' := by
  unfold strings_Repeat.f at h
  by_cases hc : 0 ≤ a1 ∧ a1 ≤ 9223372036854775807 ∧ a0.size * a1.toNat ≤ 140737488355328
  · rw [if_pos hc] at h
    obtain rfl := Option.some.inj h
    have hx := Go.Proofs.Tryz.strings_Repeat a0 a1.toNat w (by omega) hc.2.2
    rw [show ((a1.toNat : Nat) : Int) = a1 from by omega] at hx
    exact hx
  · rw [if_neg hc] at h
    cases h
def impl_TableauText.l0 : Nat → List ByteArray → List (List Int) → Int → Int → List Int → List (List Int) → Option (ByteArray)
  | 0, _, _, _, _, _, _ => none
  | k + 1, x3, x17, x18, x19, x161000, x161001 => if x19 < x18 then (if 0 ≤ x19 then (if x19 < (x17.length : Int) then ((impl_at.f x161000 x19).bind fun t166 => ((strings_Repeat.f (⟨#[46]⟩ : ByteArray) t166).bind fun t167 => ((impl_joined.f k (rd_L3 x17 x19) (⟨#[]⟩ : ByteArray)).bind fun t168 => (if t167.size + t168.size ≤ 9223372036854775807 then (if x3.length < 8796093022208 then (impl_TableauText.l0 k (x3 ++ [t167 ++ t168]) x17 x18 (wrap64 (x19 + 1)) x161000 x161001) else (none)) else (none))))) else (none)) else (none)) else ((impl_Join.f x3 (⟨#[47]⟩ : ByteArray)).bind fun t172 => (some t172))
def impl_TableauText.f (k : Nat) (l0_0 : List Int) (l0_1 : List (List Int)) : Option (ByteArray) := (impl_IsTableau.f k l0_0 l0_1).bind fun t161 => (if t161 = true then (if (l0_1.length : Int) = 0 then (some (⟨#[45]⟩ : ByteArray)) else (impl_TableauText.l0 k (([] : List ByteArray)) l0_1 (l0_1.length : Int) 0 l0_0 l0_1)) else (some (⟨#[]⟩ : ByteArray)))
set_option maxHeartbeats 8000000 in
set_option maxRecDepth 100000 in
theorem impl_TableauText.calls (k : Nat) (A0_0 : Option Addr) (c0_0 : Nat) (l0_0 : List Int) (A0_1 : Option Addr) (c0_1 : Nat) (l0_1 : List (List Int)) (r : ByteArray) (w : World) (hr0_0 : Kd.C (Kd.int .i64) w A0_0 l0_0.length l0_0) (hc0_0 : l0_0.length ≤ c0_0) (hr0_1 : Kd.C (Kd.slice 3 (Kd.int .i64)) w A0_1 l0_1.length l0_1) (hc0_1 : l0_1.length ≤ c0_1) (h : impl_TableauText.f k l0_0 l0_1 = some r) :
  Calls Tryz.prog 86 #[.agg #[.slice A0_0 l0_0.length c0_0, .slice A0_1 l0_1.length c0_1]] w fun e w' => e = .returned (.string r) ∧ Below w.heap.size w w' := by
 have hu79 := Tryz.underlying79
 have HR0_0 := Aside0.mk hr0_0
 have HC0_0 := Aside0.mk hc0_0
 clear hr0_0 hc0_0
 have HR0_1 := Aside0.mk hr0_1
 have HC0_1 := Aside0.mk hc0_1
 clear hr0_1 hc0_1
 have HB := Aside0.mk (Below.refl w.heap.size w)
 have H : ((impl_IsTableau.f k l0_0 l0_1).bind fun t161 => (if t161 = true then (if (l0_1.length : Int) = 0 then (some (⟨#[45]⟩ : ByteArray)) else (impl_TableauText.l0 k (([] : List ByteArray)) l0_1 (l0_1.length : Int) 0 l0_0 l0_1)) else (some (⟨#[]⟩ : ByteArray)))) = some r := h
 clear h
 replace H := Option.bind_eq_some_iff.mp H
 obtain ⟨t161, A20, H⟩ := H
 replace H : (if t161 = true then (if (l0_1.length : Int) = 0 then (some (⟨#[45]⟩ : ByteArray)) else (impl_TableauText.l0 k (([] : List ByteArray)) l0_1 (l0_1.length : Int) 0 l0_0 l0_1)) else (some (⟨#[]⟩ : ByteArray))) = some r := H
 have A2 := Aside0.mk A20
 clear A20
 by_cases c3 : t161 = true
 ·
  subst c3
  have H1 : (if (l0_1.length : Int) = 0 then (some (⟨#[45]⟩ : ByteArray)) else (impl_TableauText.l0 k (([] : List ByteArray)) l0_1 (l0_1.length : Int) 0 l0_0 l0_1)) = some r := by rw [if_pos rfl] at H; exact H
  clear H
  have H := H1
  clear H1
  by_cases c4 : (l0_1.length : Int) = 0
  ·
   rw [if_pos c4] at H
   have c4b0 : ((l0_1.length : Int) == 0) = true := beq_iff_eq.mpr c4
   have c4b1 : ((l0_1.length : Int) != 0) = false := bne_eq_false_iff_eq.mpr c4
   clear c4
   obtain rfl := Option.some.inj H
   go_enter Tryz.func86, Tryz.ntmps86
   go_wp2_with (first | ((with_reducible refine gate_dst (N := 1) rfl ?_); refine box_event ?hg (N := 1) ?hd (cs := #[.slice A0_0 l0_0.length c0_0, .slice A0_1 l0_1.length c0_1]) (t := 79) ?hr ?_; (case hd => rfl); (case hg => rfl); (case hr => first | (go_simp; done) | (go_simp; rfl)); intro gb160 hg w5 hbox hb; have n0_ := Aside0.mk (below_step (by repeat (first | (with_reducible first | exact HB.out | apply below_alloc | apply pw_below_drewN | apply below_drew1) | exact HB.out)) hb); have n1_ := Aside0.mk (hbox); have n2_ := Aside0.mk ((by rw [hg]; exact (below_size (by repeat (first | (with_reducible first | exact HB.out | apply below_alloc | apply pw_below_drewN | apply below_drew1) | exact HB.out))) : w.heap.size ≤ gb160)); have n3_ := Aside0.mk ((by rw [hg]; exact (below_size (by repeat (first | (with_reducible first | exact HB.out | apply below_alloc | apply pw_below_drewN | apply below_drew1) | exact HB.out))) : w.heap.size ≤ gb160)); clear HB; have HB := n0_; have BK160 := n1_; have GW160 := n2_; have GE160 := n3_; clear n0_ n1_ n2_ n3_; clear hb hbox hg; have hcz6_0 : w5.cell? ⟨gb160, 0, none⟩ = some (.slice A0_0 l0_0.length c0_0) := (blk_cell BK160.out 0).trans rfl; have hcz6_1 : w5.cell? ⟨gb160, 1, none⟩ = some (.slice A0_1 l0_1.length c0_1) := (blk_cell BK160.out 1).trans rfl; have hfz6_0 := blk_frozen BK160.out 0; have hfz6_1 := blk_frozen BK160.out 1) | ((with_reducible refine gate_callee (f := 133) rfl ?_); refine goesL_ (some 8) rfl rfl Tryz.func133 (by kernel_rfl) rfl #[.agg #[.slice A0_0 l0_0.length c0_0, .slice A0_1 l0_1.length c0_1]] rfl (by (try simp only [List.map_toArray, List.map_cons, List.map_nil]); first | done | rfl | (simp only [List.length_drop, List.length_take]; rfl)) ?_; (with_reducible refine (impl_IsTableau.calls k _ _ l0_0 _ _ l0_1 true _ ?side1 ?side2 ?side3 ?side4 A2.out).mono ?_); (case side1 => repeat (first | exact (Kd.C_below HR0_0.out HB.out) | (with_reducible refine Kd.C_alloc ?_ _) | (with_reducible refine Kd.C_drewN ?_ _) | (with_reducible refine Kd.C_drew ?_))); (case side2 => exact HC0_0.out); (case side3 => repeat (first | exact (Kd.C_below HR0_1.out HB.out) | (with_reducible refine Kd.C_alloc ?_ _) | (with_reducible refine Kd.C_drewN ?_ _) | (with_reducible refine Kd.C_drew ?_))); (case side4 => exact HC0_1.out); rintro e w7 ⟨rfl, hb⟩; refine ⟨_, rfl, ?_⟩; have n0_ := Aside0.mk (blk_below (g := gb160) (o := .cells #[.slice A0_0 l0_0.length c0_0, .slice A0_1 l0_1.length c0_1] 79 (0, 0)) (by (with_reducible repeat (first | refine blk_drewN ?_ _ | refine blk_drew ?_ | refine blk_alloc ?_ _)); exact BK160.out) hb); have n1_ := Aside0.mk (below_step (by repeat (first | (with_reducible first | exact HB.out | apply below_alloc | apply pw_below_drewN | apply below_drew1 | refine below_set ?_ GE160.out) | exact HB.out)) hb); clear BK160; clear HB; have BK160 := n0_; have HB := n1_; clear n0_ n1_; (try clear hb); (try clear hb2); (try clear hk); (try clear hi); have hcz8_0 : w7.cell? ⟨gb160, 0, none⟩ = some (.slice A0_0 l0_0.length c0_0) := (blk_cell BK160.out 0).trans rfl; have hcz8_1 : w7.cell? ⟨gb160, 1, none⟩ = some (.slice A0_1 l0_1.length c0_1) := (blk_cell BK160.out 1).trans rfl; have hfz8_0 := blk_frozen BK160.out 0; have hfz8_1 := blk_frozen BK160.out 1))
   go_ret
   exact ⟨by first | rfl | (simp [errW_none, errW_some] <;> rfl) | (simp [*, errW_none, errW_some] <;> rfl), by repeat (first | (with_reducible first | exact HB.out | apply below_alloc | apply pw_below_drewN | apply below_drew1 | refine below_set ?_ GE160.out) | exact HB.out)⟩
  ·
   rw [if_neg c4] at H
   have c4b0 : ((l0_1.length : Int) == 0) = false := beq_eq_false_iff_ne.mpr c4
   have c4b1 : ((l0_1.length : Int) != 0) = true := bne_iff_ne.mpr c4
   have c4b2 : ¬ (l0_1 = []) := fun h_ => c4 (by rw [h_]; rfl)
   obtain ⟨y162, hy162⟩ : ∃ y_ : List ByteArray, y_ = (([] : List ByteArray)) := ⟨_, rfl⟩
   replace H : (impl_TableauText.l0 k y162 l0_1 (l0_1.length : Int) 0 l0_0 l0_1) = some r := by first | (rw [hy162]; with_reducible exact H) | (have H2_ := (Option.bind_some _ _).symm.trans H; rw [hy162]; with_reducible exact H2_) | (have H2_ := (Option.bind_some _ _).symm.trans H; with_reducible exact H2_) | with_reducible exact H | (rw [hy162]; exact H) | exact H
   have Ny162 := Aside0.mk hy162
   clear hy162
   have H' := Aside0.mk H
   clear H
   go_enter Tryz.func86, Tryz.ntmps86
   go_wp2_with (first | ((with_reducible refine gate_dst (N := 1) rfl ?_); refine box_event ?hg (N := 1) ?hd (cs := #[.slice A0_0 l0_0.length c0_0, .slice A0_1 l0_1.length c0_1]) (t := 79) ?hr ?_; (case hd => rfl); (case hg => rfl); (case hr => first | (go_simp; done) | (go_simp; rfl)); intro gb160 hg w9 hbox hb; have n0_ := Aside0.mk (below_step (by repeat (first | (with_reducible first | exact HB.out | apply below_alloc | apply pw_below_drewN | apply below_drew1) | exact HB.out)) hb); have n1_ := Aside0.mk (hbox); have n2_ := Aside0.mk ((by rw [hg]; exact (below_size (by repeat (first | (with_reducible first | exact HB.out | apply below_alloc | apply pw_below_drewN | apply below_drew1) | exact HB.out))) : w.heap.size ≤ gb160)); have n3_ := Aside0.mk ((by rw [hg]; exact (below_size (by repeat (first | (with_reducible first | exact HB.out | apply below_alloc | apply pw_below_drewN | apply below_drew1) | exact HB.out))) : w.heap.size ≤ gb160)); clear HB; have HB := n0_; have BK160 := n1_; have GW160 := n2_; have GE160 := n3_; clear n0_ n1_ n2_ n3_; clear hb hbox hg; have hcz10_0 : w9.cell? ⟨gb160, 0, none⟩ = some (.slice A0_0 l0_0.length c0_0) := (blk_cell BK160.out 0).trans rfl; have hcz10_1 : w9.cell? ⟨gb160, 1, none⟩ = some (.slice A0_1 l0_1.length c0_1) := (blk_cell BK160.out 1).trans rfl; have hfz10_0 := blk_frozen BK160.out 0; have hfz10_1 := blk_frozen BK160.out 1) | ((with_reducible refine gate_callee (f := 133) rfl ?_); refine goesL_ (some 8) rfl rfl Tryz.func133 (by kernel_rfl) rfl #[.agg #[.slice A0_0 l0_0.length c0_0, .slice A0_1 l0_1.length c0_1]] rfl (by (try simp only [List.map_toArray, List.map_cons, List.map_nil]); first | done | rfl | (simp only [List.length_drop, List.length_take]; rfl)) ?_; (with_reducible refine (impl_IsTableau.calls k _ _ l0_0 _ _ l0_1 true _ ?side1 ?side2 ?side3 ?side4 A2.out).mono ?_); (case side1 => repeat (first | exact (Kd.C_below HR0_0.out HB.out) | (with_reducible refine Kd.C_alloc ?_ _) | (with_reducible refine Kd.C_drewN ?_ _) | (with_reducible refine Kd.C_drew ?_))); (case side2 => exact HC0_0.out); (case side3 => repeat (first | exact (Kd.C_below HR0_1.out HB.out) | (with_reducible refine Kd.C_alloc ?_ _) | (with_reducible refine Kd.C_drewN ?_ _) | (with_reducible refine Kd.C_drew ?_))); (case side4 => exact HC0_1.out); rintro e w11 ⟨rfl, hb⟩; refine ⟨_, rfl, ?_⟩; have n0_ := Aside0.mk (blk_below (g := gb160) (o := .cells #[.slice A0_0 l0_0.length c0_0, .slice A0_1 l0_1.length c0_1] 79 (0, 0)) (by (with_reducible repeat (first | refine blk_drewN ?_ _ | refine blk_drew ?_ | refine blk_alloc ?_ _)); exact BK160.out) hb); have n1_ := Aside0.mk (below_step (by repeat (first | (with_reducible first | exact HB.out | apply below_alloc | apply pw_below_drewN | apply below_drew1 | refine below_set ?_ GE160.out) | exact HB.out)) hb); clear BK160; clear HB; have BK160 := n0_; have HB := n1_; clear n0_ n1_; (try clear hb); (try clear hb2); (try clear hk); (try clear hi); have hcz12_0 : w11.cell? ⟨gb160, 0, none⟩ = some (.slice A0_0 l0_0.length c0_0) := (blk_cell BK160.out 0).trans rfl; have hcz12_1 : w11.cell? ⟨gb160, 1, none⟩ = some (.slice A0_1 l0_1.length c0_1) := (blk_cell BK160.out 1).trans rfl; have hfz12_0 := blk_frozen BK160.out 0; have hfz12_1 := blk_frozen BK160.out 1) | ((with_reducible refine gate_dst (N := 15) rfl ?_); refine Kd.R_lit Kd.string _ 9 ?hg (N := 15) ?hd (xs := ([] : List ByteArray)) (inner := []) (ok := fun _ => True) (okp := fun _ => True) ?hr ?hp (fun _ hk => hk) trivial (Below.refl _ _) (Nat.le_refl _) (by simp) ?_; (case hd => rfl); (case hg => rfl); (case hr => first | (go_simp; done) | (go_simp; rfl)); (case hp => exact (Reps.none _ _)); intro v163 w13 ho14 hb hg_ hnew_; clear hg_ hnew_; (first | rw [← Ny162.out] at ho14 | (simp only [Int.reduceToNat] at ho14; rw [← Ny162.out] at ho14)); have n0_ := Aside0.mk (Kd.R_lower ho14 (below_size (by repeat (first | (with_reducible first | exact HB.out | apply below_alloc | apply pw_below_drewN | apply below_drew1 | refine below_set ?_ GE160.out) | exact HB.out)))); have n1_ := Aside0.mk (blk_below (g := gb160) (o := .cells #[.slice A0_0 l0_0.length c0_0, .slice A0_1 l0_1.length c0_1] 79 (0, 0)) (by (with_reducible repeat (first | refine blk_drewN ?_ _ | refine blk_drew ?_ | refine blk_alloc ?_ _)); exact BK160.out) hb); have n2_ := Aside0.mk (below_step (by repeat (first | (with_reducible first | exact HB.out | apply below_alloc | apply pw_below_drewN | apply below_drew1 | refine below_set ?_ GE160.out) | exact HB.out)) hb); clear BK160; clear HB; have HO164 := n0_; have BK160 := n1_; have HB := n2_; clear n0_ n1_ n2_; clear hb ho14; have hcz15_0 : w13.cell? ⟨gb160, 0, none⟩ = some (.slice A0_0 l0_0.length c0_0) := (blk_cell BK160.out 0).trans rfl; have hcz15_1 : w13.cell? ⟨gb160, 1, none⟩ = some (.slice A0_1 l0_1.length c0_1) := (blk_cell BK160.out 1).trans rfl; have hfz15_0 := blk_frozen BK160.out 0; have hfz15_1 := blk_frozen BK160.out 1))
   go_loopg [3, 19] k (fun kq v3 v19 w' => ∃ (x3_1 : List ByteArray) (x19_1 : Int), v19 = .int .i64 x19_1 ∧ Aside0 (impl_TableauText.l0 kq x3_1 l0_1 (l0_1.length : Int) x19_1 l0_0 l0_1 = some r) ∧ Aside0 (kq ≤ k) ∧ Aside0 (Kd.R Kd.string 9 w' w.heap.size (fun _ => True) v3 x3_1) ∧ Aside0 (w'.heap[gb160]? = some (.cells #[(.slice A0_0 l0_0.length c0_0), (.slice A0_1 l0_1.length c0_1)] 79 (0, 0))) ∧ Aside0 (Below w.heap.size w w'))
   case atStart => exact ⟨(y162), (0), (by first | rfl | (simp; done) | (simp [*]; done)), H', ⟨Nat.le_refl _⟩, ⟨by (with_reducible repeat (first | apply Kd.R_alloc | apply Kd.R_drewN | apply Kd.R_drew)); exact HO164.out⟩, ⟨by (with_reducible repeat (first | refine blk_drewN ?_ _ | refine blk_drew ?_ | refine blk_alloc ?_ _)); exact BK160.out⟩, ⟨by repeat (first | (with_reducible first | exact HB.out | apply below_alloc | apply pw_below_drewN | apply below_drew1 | refine below_set ?_ GE160.out) | exact HB.out)⟩⟩
   case round =>
    clear H'
    try clear c1
    try clear p2
    try clear c3
    try clear c4
    try clear c4b0
    try clear c4b1
    try clear c4b2
    try clear c8
    try clear c13
    try clear hcz10_0
    try clear hcz10_1
    try clear hcz12_0
    try clear hcz12_1
    try clear hcz15_0
    try clear hcz15_1
    try clear hcz6_0
    try clear hcz6_1
    try clear hcz8_0
    try clear hcz8_1
    try clear hfz10_0
    try clear hfz10_1
    try clear hfz12_0
    try clear hfz12_1
    try clear hfz15_0
    try clear hfz15_1
    try clear hfz6_0
    try clear hfz6_1
    try clear hfz8_0
    try clear hfz8_1
    obtain ⟨x3_1, x19_1, rfl, HA, HK1, HO_3, BK160, HB⟩ := hrel
    cases gk with
    | zero => exact absurd HA.out (by simp [impl_TableauText.l0])
    | succ k1 =>
     have H := HA.out
     clear HA
     simp only [impl_TableauText.l0] at H
     by_cases c16 : x19_1 < (l0_1.length : Int)
     ·
      rw [if_pos c16] at H
      have c16b0 : decide (x19_1 < (l0_1.length : Int)) = true := decide_eq_true c16
      clear c16
      by_cases c17 : 0 ≤ x19_1
      ·
       rw [if_pos c17] at H
       have c17b0 : decide (0 ≤ x19_1) = true := decide_eq_true c17
       clear c17
       by_cases c18 : x19_1 < (l0_1.length : Int)
       ·
        rw [if_pos c18] at H
        have c18b0 : decide (x19_1 < (l0_1.length : Int)) = true := decide_eq_true c18
        clear c18
        replace H := Option.bind_eq_some_iff.mp H
        obtain ⟨t166, A190, H⟩ := H
        replace H : ((strings_Repeat.f (⟨#[46]⟩ : ByteArray) t166).bind fun t167 => ((impl_joined.f k1 (rd_L3 l0_1 x19_1) (⟨#[]⟩ : ByteArray)).bind fun t168 => (if t167.size + t168.size ≤ 9223372036854775807 then (if x3_1.length < 8796093022208 then (impl_TableauText.l0 k1 (x3_1 ++ [t167 ++ t168]) l0_1 (l0_1.length : Int) (wrap64 (x19_1 + 1)) l0_0 l0_1) else (none)) else (none)))) = some r := H
        have A19 := Aside0.mk A190
        clear A190
        replace H := Option.bind_eq_some_iff.mp H
        obtain ⟨t167, A200, H⟩ := H
        replace H : ((impl_joined.f k1 (rd_L3 l0_1 x19_1) (⟨#[]⟩ : ByteArray)).bind fun t168 => (if t167.size + t168.size ≤ 9223372036854775807 then (if x3_1.length < 8796093022208 then (impl_TableauText.l0 k1 (x3_1 ++ [t167 ++ t168]) l0_1 (l0_1.length : Int) (wrap64 (x19_1 + 1)) l0_0 l0_1) else (none)) else (none))) = some r := H
        have A20 := Aside0.mk A200
        clear A200
        replace H := Option.bind_eq_some_iff.mp H
        obtain ⟨t168, A210, H⟩ := H
        replace H : (if t167.size + t168.size ≤ 9223372036854775807 then (if x3_1.length < 8796093022208 then (impl_TableauText.l0 k1 (x3_1 ++ [t167 ++ t168]) l0_1 (l0_1.length : Int) (wrap64 (x19_1 + 1)) l0_0 l0_1) else (none)) else (none)) = some r := H
        have A21 := Aside0.mk A210
        clear A210
        by_cases c22 : t167.size + t168.size ≤ 9223372036854775807
        ·
         rw [if_pos c22] at H
         have c22b0 := eq_true c22
         have c22b1 : decide (t167.size + t168.size ≤ 9223372036854775807) = true := decide_eq_true c22
         try have c22b2 : (9223372036854775807 < t167.size + t168.size) = False := eq_false (Nat.not_lt.2 c22)
         by_cases c23 : x3_1.length < 8796093022208
         ·
          rw [if_pos c23] at H
          have LMc23 := Aside0.mk c23
          clear c23
          obtain ⟨y169, hy169⟩ : ∃ y_ : List ByteArray, y_ = (x3_1 ++ [t167 ++ t168]) := ⟨_, rfl⟩
          replace H : (impl_TableauText.l0 k1 y169 l0_1 (l0_1.length : Int) (wrap64 (x19_1 + 1)) l0_0 l0_1) = some r := by first | (rw [hy169]; with_reducible exact H) | (have H2_ := (Option.bind_some _ _).symm.trans H; rw [hy169]; with_reducible exact H2_) | (have H2_ := (Option.bind_some _ _).symm.trans H; with_reducible exact H2_) | with_reducible exact H | (rw [hy169]; exact H) | exact H
          have Ny169 := Aside0.mk hy169
          clear hy169
          have H' := Aside0.mk H
          clear H
          have p165 : 0 ≤ (x19_1 : Int) := of_decide_eq_true (by first | (with_reducible assumption) | assumption)
          have q165 : x19_1 < (l0_1.length : Int) := of_decide_eq_true (by first | (with_reducible assumption) | assumption)
          obtain ⟨ad165, A165_0, c165_0, e165, hx165_0, hl165_0, hi165_0⟩ := at_L3 HR0_1.out x19_1 p165 q165
          cases e165
          replace hx165_0 := (HB.out.cell (World.block_lt_of_cell? w _ hx165_0)).trans hx165_0
          have HR165_0 := Aside0.mk hi165_0
          have HC165_0 := Aside0.mk hl165_0
          clear hi165_0 hl165_0
          replace p165 := eq_true p165
          replace q165 := eq_true q165
          have hcz24_0 : wr.cell? ⟨gb160, 0, none⟩ = some (.slice A0_0 l0_0.length c0_0) := (blk_cell BK160.out 0).trans rfl
          have hcz24_1 : wr.cell? ⟨gb160, 1, none⟩ = some (.slice (some ad165) l0_1.length c0_1) := (blk_cell BK160.out 1).trans rfl
          have hfz24_0 := blk_frozen BK160.out 0
          have hfz24_1 := blk_frozen BK160.out 1
          go_wp2_with (first | ((with_reducible refine gate_callee (f := 135) rfl ?_); refine goesL_ (some 28) rfl rfl Tryz.func135 (by kernel_rfl) rfl #[.slice A0_0 l0_0.length c0_0, .int .i64 x19_1] rfl (by (try simp only [List.map_toArray, List.map_cons, List.map_nil]); first | done | rfl | (simp only [List.length_drop, List.length_take]; rfl)) ?_; (with_reducible refine (impl_at.calls _ _ l0_0 x19_1 t166 _ ?side1 ?side2 A19.out).mono ?_); (case side1 => repeat (first | exact (Kd.C_below HR0_0.out HB.out) | (with_reducible refine Kd.C_alloc ?_ _) | (with_reducible refine Kd.C_drewN ?_ _) | (with_reducible refine Kd.C_drew ?_))); (case side2 => exact HC0_0.out); rintro e w' ⟨rfl, ⟨nd, rfl⟩⟩; refine ⟨_, rfl, ?_⟩) | ((with_reducible refine gate_callee (f := 134) rfl ?_); refine goesL_ (some 29) rfl rfl Tryz.func134 (by kernel_rfl) rfl #[.string (⟨#[46]⟩ : ByteArray), .int .i64 t166] rfl (by (try simp only [List.map_toArray, List.map_cons, List.map_nil]); first | done | rfl | (simp only [List.length_drop, List.length_take]; rfl)) ?_; (with_reducible refine (strings_Repeat.calls (⟨#[46]⟩ : ByteArray) t166 t167 _ A20.out).mono ?_); rintro e w25 ⟨rfl, hb⟩; refine ⟨_, rfl, ?_⟩; have n0_ := Aside0.mk (Kd.R_below (by (with_reducible repeat (first | apply Kd.R_alloc | apply Kd.R_drewN | apply Kd.R_drew)); exact HO_3.out) hb); have n1_ := Aside0.mk (blk_below (g := gb160) (o := .cells #[.slice A0_0 l0_0.length c0_0, .slice (some ad165) l0_1.length c0_1] 79 (0, 0)) (by (with_reducible repeat (first | refine blk_drewN ?_ _ | refine blk_drew ?_ | refine blk_alloc ?_ _)); exact BK160.out) hb); have n2_ := Aside0.mk (below_step (by repeat (first | (with_reducible first | exact HB.out | apply below_alloc | apply pw_below_drewN | apply below_drew1 | refine below_set ?_ GE160.out) | exact HB.out)) hb); clear HO_3; clear BK160; clear HB; have HO_3 := n0_; have BK160 := n1_; have HB := n2_; clear n0_ n1_ n2_; (try clear hb); (try clear hb2); (try clear hk); (try clear hi)) | ((with_reducible refine gate_callee (f := 106) rfl ?_); refine goesL_ (some 31) rfl rfl Tryz.func106 (by kernel_rfl) rfl #[.slice A165_0 (rd_L3 l0_1 x19_1).length c165_0, .string (⟨#[]⟩ : ByteArray)] rfl (by (try simp only [List.map_toArray, List.map_cons, List.map_nil]); first | done | rfl | (simp only [List.length_drop, List.length_take]; rfl)) ?_; (with_reducible refine (impl_joined.calls k1 _ _ (rd_L3 l0_1 x19_1) (⟨#[]⟩ : ByteArray) t168 _ ?side1 ?side2 A21.out).mono ?_); (case side1 => repeat (first | exact (Kd.C_below HR165_0.out HB.out) | (with_reducible refine Kd.C_alloc ?_ _) | (with_reducible refine Kd.C_drewN ?_ _) | (with_reducible refine Kd.C_drew ?_))); (case side2 => exact HC165_0.out); rintro e w26 ⟨rfl, hb⟩; refine ⟨_, rfl, ?_⟩; have n0_ := Aside0.mk (Kd.R_below (by (with_reducible repeat (first | apply Kd.R_alloc | apply Kd.R_drewN | apply Kd.R_drew)); exact HO_3.out) hb); have n1_ := Aside0.mk (blk_below (g := gb160) (o := .cells #[.slice A0_0 l0_0.length c0_0, .slice (some ad165) l0_1.length c0_1] 79 (0, 0)) (by (with_reducible repeat (first | refine blk_drewN ?_ _ | refine blk_drew ?_ | refine blk_alloc ?_ _)); exact BK160.out) hb); have n2_ := Aside0.mk (below_step (by repeat (first | (with_reducible first | exact HB.out | apply below_alloc | apply pw_below_drewN | apply below_drew1 | refine below_set ?_ GE160.out) | exact HB.out)) hb); clear HO_3; clear BK160; clear HB; have HO_3 := n0_; have BK160 := n1_; have HB := n2_; clear n0_ n1_ n2_; (try clear hb); (try clear hb2); (try clear hk); (try clear hi)) | ((with_reducible refine gate_builtin (b := .append) (xs := #[.tmp 24, .tmp 33]) rfl ?_); at_builtin; refine Kd.R_append Kd.string (w0 := w) w.heap.size rfl (.tmp 24) (.tmp 33) 77 9 (.string ⟨#[]⟩) 16 rfl Tryz.underlying77 info9 rfl (by decide) (by omega) u3 x3_1 (t167 ++ t168) [.string (t167 ++ t168)] (fun _ => True) (fun _ => False) rfl rfl ?aP (fun _ hk => hk.elim) ?aF ?aO ?aB ?aS ?aL ?_; (case aP => exact rfl); (case aB => exact (by repeat (first | (with_reducible first | exact HB.out | apply below_alloc | apply pw_below_drewN | apply below_drew1 | refine below_set ?_ GE160.out) | exact HB.out))); (case aF => exact (fun _ _ => trivial)); (case aO => exact (by (with_reducible repeat (first | apply Kd.R_alloc | apply Kd.R_drewN | apply Kd.R_drew)); exact HO_3.out)); (case aS => exact (below_size (by repeat (first | (with_reducible first | exact HB.out | apply below_alloc | apply pw_below_drewN | apply below_drew1 | refine below_set ?_ GE160.out) | exact HB.out)))); (case aL => have := LMc23.out; omega); intro v170 w27 ho hb hg hat; rw [← Ny169.out] at ho; have n0_ := Aside0.mk (blk_grown (g := gb160) (o := .cells #[.slice A0_0 l0_0.length c0_0, .slice (some ad165) l0_1.length c0_1] 79 (0, 0)) (by (with_reducible repeat (first | refine blk_drewN ?_ _ | refine blk_drew ?_ | refine blk_alloc ?_ _)); exact BK160.out) hg (Kd.R_ne HO_3.out BK160.out (by decide))); have n1_ := Aside0.mk (hb); have n2_ := Aside0.mk (ho); clear BK160; clear HB; clear HO_3; have BK160 := n0_; have HB := n1_; have HO171 := n2_; clear n0_ n1_ n2_; clear ho hb hg hat))
          go_roundg k1
          case measure => have := HK1.out; omega
          case rel => exact ⟨(y169), (wrap64 (x19_1 + 1)), (by first | rfl | (simp; done) | (simp [*]; done)), H', ⟨by have := HK1.out; omega⟩, ⟨by (with_reducible repeat (first | apply Kd.R_alloc | apply Kd.R_drewN | apply Kd.R_drew)); exact HO171.out⟩, ⟨by (with_reducible repeat (first | refine blk_drewN ?_ _ | refine blk_drew ?_ | refine blk_alloc ?_ _)); exact BK160.out⟩, ⟨by repeat (first | (with_reducible first | exact HB.out | apply below_alloc | apply pw_below_drewN | apply below_drew1 | refine below_set ?_ GE160.out) | exact HB.out)⟩⟩
         ·
          rw [if_neg c23] at H
          exact absurd H (by simp)
        ·
         rw [if_neg c22] at H
         exact absurd H (by simp)
       ·
        rw [if_neg c18] at H
        exact absurd H (by simp)
      ·
       rw [if_neg c17] at H
       exact absurd H (by simp)
     ·
      rw [if_neg c16] at H
      have c16b0 : decide (x19_1 < (l0_1.length : Int)) = false := decide_eq_false c16
      clear c16
      replace H := Option.bind_eq_some_iff.mp H
      obtain ⟨t172, A280, H⟩ := H
      replace H : (some t172) = some r := H
      have A28 := Aside0.mk A280
      clear A280
      obtain rfl := Option.some.inj H
      obtain ⟨Ao29, co29, eo29⟩ := Kd.R_slice HO_3.out
      subst eo29
      go_wp2_with (first | ((with_reducible refine gate_callee (f := 85) rfl ?_); refine goesL_ (some 37) rfl rfl Tryz.func85 (by kernel_rfl) rfl #[.slice Ao29 x3_1.length co29, .string (⟨#[47]⟩ : ByteArray)] rfl (by (try simp only [List.map_toArray, List.map_cons, List.map_nil]); first | done | rfl | (simp only [List.length_drop, List.length_take]; rfl)) ?_; (with_reducible refine (impl_Join.calls _ _ x3_1 (⟨#[47]⟩ : ByteArray) t172 _ ?side1 ?side2 A28.out).mono ?_); (case side1 => repeat (first | exact (Kd.R_reads' HO_3.out).2.2 | (with_reducible refine Kd.C_alloc ?_ _) | (with_reducible refine Kd.C_drewN ?_ _) | (with_reducible refine Kd.C_drew ?_))); (case side2 => exact (Kd.R_reads' HO_3.out).2.1); rintro e w30 ⟨rfl, hb⟩; refine ⟨_, rfl, ?_⟩; have n0_ := Aside0.mk (Kd.R_below (by (with_reducible repeat (first | apply Kd.R_alloc | apply Kd.R_drewN | apply Kd.R_drew)); exact HO_3.out) hb); have n1_ := Aside0.mk (blk_below (g := gb160) (o := .cells #[.slice A0_0 l0_0.length c0_0, .slice A0_1 l0_1.length c0_1] 79 (0, 0)) (by (with_reducible repeat (first | refine blk_drewN ?_ _ | refine blk_drew ?_ | refine blk_alloc ?_ _)); exact BK160.out) hb); have n2_ := Aside0.mk (below_step (by repeat (first | (with_reducible first | exact HB.out | apply below_alloc | apply pw_below_drewN | apply below_drew1 | refine below_set ?_ GE160.out) | exact HB.out)) hb); clear HO_3; clear BK160; clear HB; have HO_3 := n0_; have BK160 := n1_; have HB := n2_; clear n0_ n1_ n2_; (try clear hb); (try clear hb2); (try clear hk); (try clear hi)))
      go_ret
      exact ⟨by first | rfl | (simp [errW_none, errW_some] <;> rfl) | (simp [*, errW_none, errW_some] <;> rfl), by repeat (first | (with_reducible first | exact HB.out | apply below_alloc | apply pw_below_drewN | apply below_drew1 | refine below_set ?_ GE160.out) | exact HB.out)⟩
 ·
  replace c3 := Bool.eq_false_iff.mpr c3
  subst c3
  have H1 : (some (⟨#[]⟩ : ByteArray)) = some r := by rw [if_neg (show ¬ (false = true) by decide)] at H; exact H
  clear H
  have H := H1
  clear H1
  obtain rfl := Option.some.inj H
  go_enter Tryz.func86, Tryz.ntmps86
  go_wp2_with (first | ((with_reducible refine gate_dst (N := 1) rfl ?_); refine box_event ?hg (N := 1) ?hd (cs := #[.slice A0_0 l0_0.length c0_0, .slice A0_1 l0_1.length c0_1]) (t := 79) ?hr ?_; (case hd => rfl); (case hg => rfl); (case hr => first | (go_simp; done) | (go_simp; rfl)); intro gb160 hg w31 hbox hb; have n0_ := Aside0.mk (below_step (by repeat (first | (with_reducible first | exact HB.out | apply below_alloc | apply pw_below_drewN | apply below_drew1) | exact HB.out)) hb); have n1_ := Aside0.mk (hbox); have n2_ := Aside0.mk ((by rw [hg]; exact (below_size (by repeat (first | (with_reducible first | exact HB.out | apply below_alloc | apply pw_below_drewN | apply below_drew1) | exact HB.out))) : w.heap.size ≤ gb160)); have n3_ := Aside0.mk ((by rw [hg]; exact (below_size (by repeat (first | (with_reducible first | exact HB.out | apply below_alloc | apply pw_below_drewN | apply below_drew1) | exact HB.out))) : w.heap.size ≤ gb160)); clear HB; have HB := n0_; have BK160 := n1_; have GW160 := n2_; have GE160 := n3_; clear n0_ n1_ n2_ n3_; clear hb hbox hg; have hcz32_0 : w31.cell? ⟨gb160, 0, none⟩ = some (.slice A0_0 l0_0.length c0_0) := (blk_cell BK160.out 0).trans rfl; have hcz32_1 : w31.cell? ⟨gb160, 1, none⟩ = some (.slice A0_1 l0_1.length c0_1) := (blk_cell BK160.out 1).trans rfl; have hfz32_0 := blk_frozen BK160.out 0; have hfz32_1 := blk_frozen BK160.out 1) | ((with_reducible refine gate_callee (f := 133) rfl ?_); refine goesL_ (some 8) rfl rfl Tryz.func133 (by kernel_rfl) rfl #[.agg #[.slice A0_0 l0_0.length c0_0, .slice A0_1 l0_1.length c0_1]] rfl (by (try simp only [List.map_toArray, List.map_cons, List.map_nil]); first | done | rfl | (simp only [List.length_drop, List.length_take]; rfl)) ?_; (with_reducible refine (impl_IsTableau.calls k _ _ l0_0 _ _ l0_1 false _ ?side1 ?side2 ?side3 ?side4 A2.out).mono ?_); (case side1 => repeat (first | exact (Kd.C_below HR0_0.out HB.out) | (with_reducible refine Kd.C_alloc ?_ _) | (with_reducible refine Kd.C_drewN ?_ _) | (with_reducible refine Kd.C_drew ?_))); (case side2 => exact HC0_0.out); (case side3 => repeat (first | exact (Kd.C_below HR0_1.out HB.out) | (with_reducible refine Kd.C_alloc ?_ _) | (with_reducible refine Kd.C_drewN ?_ _) | (with_reducible refine Kd.C_drew ?_))); (case side4 => exact HC0_1.out); rintro e w33 ⟨rfl, hb⟩; refine ⟨_, rfl, ?_⟩; have n0_ := Aside0.mk (blk_below (g := gb160) (o := .cells #[.slice A0_0 l0_0.length c0_0, .slice A0_1 l0_1.length c0_1] 79 (0, 0)) (by (with_reducible repeat (first | refine blk_drewN ?_ _ | refine blk_drew ?_ | refine blk_alloc ?_ _)); exact BK160.out) hb); have n1_ := Aside0.mk (below_step (by repeat (first | (with_reducible first | exact HB.out | apply below_alloc | apply pw_below_drewN | apply below_drew1 | refine below_set ?_ GE160.out) | exact HB.out)) hb); clear BK160; clear HB; have BK160 := n0_; have HB := n1_; clear n0_ n1_; (try clear hb); (try clear hb2); (try clear hk); (try clear hi)))
  go_ret
  exact ⟨by first | rfl | (simp [errW_none, errW_some] <;> rfl) | (simp [*, errW_none, errW_some] <;> rfl), by repeat (first | (with_reducible first | exact HB.out | apply below_alloc | apply pw_below_drewN | apply below_drew1 | refine below_set ?_ GE160.out) | exact HB.out)⟩
def strings_Compare.f (a0 : ByteArray) (a1 : ByteArray) : Option (Int) := some (Go.Lib.compareBytes a0.data.toList a1.data.toList)
theorem strings_Compare.calls (a0 : ByteArray) (a1 : ByteArray) (r : Int) (w : World) (h : strings_Compare.f a0 a1 = some r) :
    Calls Tryz.prog 191 #[.string a0, .string a1] w fun e w' => e = .returned (.int .i64 r) ∧ Drawn0 w w' := by
  obtain rfl := Option.some.inj h
  exact (Go.Proofs.Tryz.strings_Compare a0 a1 w).mono fun e w' ⟨he, hw⟩ => ⟨he, by rw [hw]; exact Drawn0.refl w⟩
def impl_isWeight.bad (x : Int) : Bool := !(decide (0 ≤ x) && decide (x ≤ 9))
def impl_isWeight.f (l0 : List Int) : Option (Bool) := some (decide (l0.length ≤ 9) && !(l0.any impl_isWeight.bad))
set_option maxHeartbeats 4000000 in
set_option maxRecDepth 100000 in
theorem impl_isWeight.pred (w : World) : PredAt Tryz.prog 185 #[] (fun x : Int => Value.int .i64 x) impl_isWeight.bad w := fun W x _ => by
  unfold FnGives
  by_cases h1 : 0 ≤ x <;> by_cases h2 : x ≤ 9
  all_goals
    have hb : impl_isWeight.bad x = !(decide (0 ≤ x) && decide (x ≤ 9)) := rfl
    rw [hb]
    clear hb
    go_enter Tryz.func185, Tryz.ntmps185
    go_wp2
    go_ret
    exact ⟨by simp [h1, h2], 0, rfl⟩
theorem impl_isWeight.has (A0 : Option Addr) (c0 : Nat) (l0 : List Int) (w w1 : World) (hr0 : Kd.C (Kd.int .i64) w A0 l0.length l0) (hl : l0.length ≤ 9) (hb : Drawn0 w w1) :
    Calls Tryz.prog 160 #[.slice A0 l0.length c0, .func (.func 185) #[] #[]] w1 fun e w' => e = .returned (.bool (l0.any impl_isWeight.bad)) ∧ Drawn0 w w' := by
  obtain ⟨⟨q0, rfl⟩⟩ := hb
  rcases l0 with _ | ⟨x, xs⟩
  · refine (AnyE.slices_ContainsFunc_empty Go.Proofs.Tryz.conF A0 c0 _ _).mono ?_
    rintro e w' ⟨rfl, rfl⟩
    exact ⟨rfl, ⟨q0, rfl⟩⟩
  · obtain ⟨ad, rfl, hcell⟩ := hr0.2.2 (by simp)
    have hcells : ∀ (j : Nat) y, (x :: xs)[j]? = some y → w.cell? (ad.add j) = some (.int .i64 y) := by
      intro j y hy
      obtain ⟨c, _, hK, hu⟩ := hcell j y hy
      obtain rfl : c = [.int .i64 y] := hK
      have := hu 0 _ rfl
      rwa [show (Kd.int .i64 : Kd Int).sz = 1 from rfl, Nat.mul_one, Nat.add_zero] at this
    have h0 := hcells 0 x rfl
    have hsp : ad.spot = none := by
      unfold World.cell? Addr.add at h0
      simp only [if_true] at h0
      cases hs : ad.spot with
      | none => rfl
      | some s => rw [hs] at h0; (split at h0 <;> simp at h0)
    obtain ⟨bk, o, sp⟩ := ad
    subst hsp
    have hadd : ∀ j, (⟨bk, o, none⟩ : Addr).add j = ⟨bk, o + j, none⟩ := fun j => by unfold Addr.add; split <;> simp_all
    refine (AnyE.slices_ContainsFunc Go.Proofs.Tryz.conF (fun y : Int => Value.int .i64 y) impl_isWeight.bad 185 #[] (enters_of Tryz.func185 (by kernel_rfl) rfl) bk o (x :: xs).length c0 (x :: xs) _ (impl_isWeight.pred _) (Nat.le_refl _) (by omega) (fun j hj => ?_)).mono ?_
    · have := hcells j (x :: xs)[j]! (by rw [getElem!_pos _ j hj]; exact List.getElem?_eq_getElem hj)
      rw [hadd] at this
      exact this
    · rintro e w' ⟨rfl, q, rfl⟩
      exact ⟨by rw [List.take_length], ⟨q0 + q, by rw [World.drewN_drewN]⟩⟩
set_option maxHeartbeats 8000000 in
set_option maxRecDepth 100000 in
theorem impl_isWeight.calls (A0 : Option Addr) (c0 : Nat) (l0 : List Int) (r : Bool) (w : World) (hr0 : Kd.C (Kd.int .i64) w A0 l0.length l0) (hc0 : l0.length ≤ c0) (h : impl_isWeight.f l0 = some r) :
    Calls Tryz.prog 156 #[.slice A0 l0.length c0] w fun e w' => e = .returned (.bool r) ∧ Drawn0 w w' := by
  obtain rfl : (decide (l0.length ≤ 9) && !(l0.any impl_isWeight.bad)) = r := Option.some.inj h
  have HR0 := Aside0.mk hr0
  clear h hr0
  by_cases hl : l0.length ≤ 9
  · have hd : decide (l0.length ≤ 9) = true := decide_eq_true hl
    have hz : ((l0.length : Int) ≤ 9) := by omega
    have HL := Aside0.mk hl
    rw [hd]
    clear hd hl
    have HB := Aside0.mk (Drawn0.refl w)
    have hcall := fun (w1 : World) (hb : Drawn0 w w1) => impl_isWeight.has A0 c0 l0 w w1 HR0.out HL.out hb
    go_enter Tryz.func156, Tryz.ntmps156
    go_wp2_with (go_at_call 160; go_loud (refine (hcall _ (by repeat (first | exact Drawn0.refl _ | apply Drawn0.step))).mono ?_; rintro e w' ⟨rfl, hw'⟩; have HW := Aside0.mk hw'; clear hw'))
    go_ret
    exact ⟨by simp, by repeat (first | exact HW.out | apply Drawn0.step)⟩
  · have hd : decide (l0.length ≤ 9) = false := decide_eq_false hl
    have hz : ¬ ((l0.length : Int) ≤ 9) := by omega
    rw [hd]
    clear hd hl
    go_enter Tryz.func156, Tryz.ntmps156
    go_wp2
    go_ret
    exact ⟨by simp, by repeat (first | exact Drawn0.refl _ | apply Drawn0.step)⟩
def impl_sum.l0 : Nat → Int → List Int → Int → Int → Option (Int)
  | 0, _, _, _, _ => none
  | k + 1, x3, x6, x7, x8 => if x8 < x7 then (if 0 ≤ x8 then (if x8 < (x6.length : Int) then (impl_sum.l0 k (wrap64 (x3 + (rd x6 x8))) x6 x7 (wrap64 (x8 + 1))) else (none)) else (none)) else (some x3)
def impl_sum.f (k : Nat) (l0 : List Int) : Option (Int) := impl_sum.l0 k 0 l0 (l0.length : Int) 0
set_option maxHeartbeats 8000000 in
set_option maxRecDepth 100000 in
theorem impl_sum.calls (k : Nat) (A0 : Option Addr) (c0 : Nat) (l0 : List Int) (r : Int) (w : World) (hr0 : Kd.C (Kd.int .i64) w A0 l0.length l0) (hc0 : l0.length ≤ c0) (h : impl_sum.f k l0 = some r) :
  Calls Tryz.prog 50 #[.slice A0 l0.length c0] w fun e w' => e = .returned (.int .i64 r) ∧ Drawn0 w w' := by
 have HR0 := Aside0.mk hr0
 have HC0 := Aside0.mk hc0
 clear hr0 hc0
 have H : (impl_sum.l0 k 0 l0 (l0.length : Int) 0) = some r := h
 clear h
 have H' := Aside0.mk H
 clear H
 go_enter Tryz.func50, Tryz.ntmps50
 go_wp2
 go_loopg [3, 8] k (fun kq v3 v8 w' => ∃ (x3_1 : Int) (x8_1 : Int), v3 = .int .i64 x3_1 ∧ v8 = .int .i64 x8_1 ∧ Aside0 (impl_sum.l0 kq x3_1 l0 (l0.length : Int) x8_1 = some r) ∧ Aside0 (kq ≤ k) ∧ Drawn0 w w')
 case atStart => exact ⟨(0), (0), (by first | rfl | (simp; done) | (simp [*]; done)), (by first | rfl | (simp; done) | (simp [*]; done)), H', ⟨Nat.le_refl _⟩, by repeat (first | exact Drawn0.refl _ | apply Drawn0.step)⟩
 case round =>
  clear H'
  obtain ⟨x3_1, x8_1, rfl, rfl, HA, HK1, ⟨m1, rfl⟩⟩ := hrel
  cases gk with
  | zero => exact absurd HA.out (by simp [impl_sum.l0])
  | succ k1 =>
   have H := HA.out
   clear HA
   simp only [impl_sum.l0] at H
   by_cases c2 : x8_1 < (l0.length : Int)
   ·
    rw [if_pos c2] at H
    have c2b0 : decide (x8_1 < (l0.length : Int)) = true := decide_eq_true c2
    clear c2
    by_cases c3 : 0 ≤ x8_1
    ·
     rw [if_pos c3] at H
     have c3b0 : decide (0 ≤ x8_1) = true := decide_eq_true c3
     clear c3
     by_cases c4 : x8_1 < (l0.length : Int)
     ·
      rw [if_pos c4] at H
      have c4b0 : decide (x8_1 < (l0.length : Int)) = true := decide_eq_true c4
      clear c4
      have H' := Aside0.mk H
      clear H
      have p173 : 0 ≤ (x8_1 : Int) := of_decide_eq_true (by first | (with_reducible assumption) | assumption)
      have q173 : x8_1 < (l0.length : Int) := of_decide_eq_true (by first | (with_reducible assumption) | assumption)
      obtain ⟨ad173, e173, hx173_0⟩ := Kd.at_int HR0.out x8_1 p173 q173
      cases e173
      replace p173 := eq_true p173
      replace q173 := eq_true q173
      go_wp2
      go_roundg k1
      case measure => have := HK1.out; omega
      case rel => exact ⟨(wrap64 (x3_1 + (rd l0 x8_1))), (wrap64 (x8_1 + 1)), (by first | rfl | (simp; done) | (simp [*]; done)), (by first | rfl | (simp; done) | (simp [*]; done)), H', ⟨by have := HK1.out; omega⟩, by repeat (first | exact Drawn0.refl _ | apply Drawn0.step)⟩
     ·
      rw [if_neg c4] at H
      exact absurd H (by simp)
    ·
     rw [if_neg c3] at H
     exact absurd H (by simp)
   ·
    rw [if_neg c2] at H
    have c2b0 : decide (x8_1 < (l0.length : Int)) = false := decide_eq_false c2
    clear c2
    obtain rfl := Option.some.inj H
    go_wp2
    go_ret
    exact ⟨by first | rfl | (simp; done) | (simp [*]; done), by repeat (first | exact Drawn0.refl _ | apply Drawn0.step)⟩
def impl_CellCount.f (k : Nat) (l0_0 : List Int) (l0_1 : List Int) : Option (Int) := (impl_IsShape.f k l0_0 l0_1).bind fun t175 => (if t175 = true then ((impl_sum.f k l0_0).bind fun t176 => ((impl_sum.f k l0_1).bind fun t177 => (some (wrap64 (t176 - t177))))) else (some (-1)))
set_option maxHeartbeats 8000000 in
set_option maxRecDepth 100000 in
theorem impl_CellCount.calls (k : Nat) (A0_0 : Option Addr) (c0_0 : Nat) (l0_0 : List Int) (A0_1 : Option Addr) (c0_1 : Nat) (l0_1 : List Int) (r : Int) (w : World) (hr0_0 : Kd.C (Kd.int .i64) w A0_0 l0_0.length l0_0) (hc0_0 : l0_0.length ≤ c0_0) (hr0_1 : Kd.C (Kd.int .i64) w A0_1 l0_1.length l0_1) (hc0_1 : l0_1.length ≤ c0_1) (h : impl_CellCount.f k l0_0 l0_1 = some r) :
  Calls Tryz.prog 186 #[.agg #[.slice A0_0 l0_0.length c0_0, .slice A0_1 l0_1.length c0_1]] w fun e w' => e = .returned (.int .i64 r) ∧ Below w.heap.size w w' := by
 have hu74 := Tryz.underlying74
 have HR0_0 := Aside0.mk hr0_0
 have HC0_0 := Aside0.mk hc0_0
 clear hr0_0 hc0_0
 have HR0_1 := Aside0.mk hr0_1
 have HC0_1 := Aside0.mk hc0_1
 clear hr0_1 hc0_1
 have HB := Aside0.mk (Below.refl w.heap.size w)
 have H : ((impl_IsShape.f k l0_0 l0_1).bind fun t175 => (if t175 = true then ((impl_sum.f k l0_0).bind fun t176 => ((impl_sum.f k l0_1).bind fun t177 => (some (wrap64 (t176 - t177))))) else (some (-1)))) = some r := h
 clear h
 replace H := Option.bind_eq_some_iff.mp H
 obtain ⟨t175, A20, H⟩ := H
 replace H : (if t175 = true then ((impl_sum.f k l0_0).bind fun t176 => ((impl_sum.f k l0_1).bind fun t177 => (some (wrap64 (t176 - t177))))) else (some (-1))) = some r := H
 have A2 := Aside0.mk A20
 clear A20
 by_cases c3 : t175 = true
 ·
  subst c3
  have H1 : ((impl_sum.f k l0_0).bind fun t176 => ((impl_sum.f k l0_1).bind fun t177 => (some (wrap64 (t176 - t177))))) = some r := by rw [if_pos rfl] at H; exact H
  clear H
  have H := H1
  clear H1
  replace H := Option.bind_eq_some_iff.mp H
  obtain ⟨t176, A40, H⟩ := H
  replace H : ((impl_sum.f k l0_1).bind fun t177 => (some (wrap64 (t176 - t177)))) = some r := H
  have A4 := Aside0.mk A40
  clear A40
  replace H := Option.bind_eq_some_iff.mp H
  obtain ⟨t177, A50, H⟩ := H
  replace H : (some (wrap64 (t176 - t177))) = some r := H
  have A5 := Aside0.mk A50
  clear A50
  obtain rfl := Option.some.inj H
  go_enter Tryz.func186, Tryz.ntmps186
  go_wp2_with (first | ((with_reducible refine gate_dst (N := 1) rfl ?_); refine box_event ?hg (N := 1) ?hd (cs := #[.slice A0_0 l0_0.length c0_0, .slice A0_1 l0_1.length c0_1]) (t := 74) ?hr ?_; (case hd => rfl); (case hg => rfl); (case hr => first | (go_simp; done) | (go_simp; rfl)); intro gb174 hg w6 hbox hb; have n0_ := Aside0.mk (below_step (by repeat (first | (with_reducible first | exact HB.out | apply below_alloc | apply pw_below_drewN | apply below_drew1) | exact HB.out)) hb); have n1_ := Aside0.mk (hbox); have n2_ := Aside0.mk ((by rw [hg]; exact (below_size (by repeat (first | (with_reducible first | exact HB.out | apply below_alloc | apply pw_below_drewN | apply below_drew1) | exact HB.out))) : w.heap.size ≤ gb174)); have n3_ := Aside0.mk ((by rw [hg]; exact (below_size (by repeat (first | (with_reducible first | exact HB.out | apply below_alloc | apply pw_below_drewN | apply below_drew1) | exact HB.out))) : w.heap.size ≤ gb174)); clear HB; have HB := n0_; have BK174 := n1_; have GW174 := n2_; have GE174 := n3_; clear n0_ n1_ n2_ n3_; clear hb hbox hg; have hcz7_0 : w6.cell? ⟨gb174, 0, none⟩ = some (.slice A0_0 l0_0.length c0_0) := (blk_cell BK174.out 0).trans rfl; have hcz7_1 : w6.cell? ⟨gb174, 1, none⟩ = some (.slice A0_1 l0_1.length c0_1) := (blk_cell BK174.out 1).trans rfl; have hfz7_0 := blk_frozen BK174.out 0; have hfz7_1 := blk_frozen BK174.out 1) | (go_at_call 155; (with_reducible refine (impl_IsShape.calls k _ _ l0_0 _ _ l0_1 true _ ?side1 ?side2 ?side3 ?side4 A2.out).mono ?_); (case side1 => repeat (first | exact (Kd.C_below HR0_0.out HB.out) | (with_reducible refine Kd.C_alloc ?_ _) | (with_reducible refine Kd.C_drewN ?_ _) | (with_reducible refine Kd.C_drew ?_))); (case side2 => exact HC0_0.out); (case side3 => repeat (first | exact (Kd.C_below HR0_1.out HB.out) | (with_reducible refine Kd.C_alloc ?_ _) | (with_reducible refine Kd.C_drewN ?_ _) | (with_reducible refine Kd.C_drew ?_))); (case side4 => exact HC0_1.out); rintro e w8 ⟨rfl, hb⟩; have n0_ := Aside0.mk (blk_below (g := gb174) (o := .cells #[.slice A0_0 l0_0.length c0_0, .slice A0_1 l0_1.length c0_1] 74 (0, 0)) (by (with_reducible repeat (first | refine blk_drewN ?_ _ | refine blk_drew ?_ | refine blk_alloc ?_ _)); exact BK174.out) hb); have n1_ := Aside0.mk (below_step (by repeat (first | (with_reducible first | exact HB.out | apply below_alloc | apply pw_below_drewN | apply below_drew1 | refine below_set ?_ GE174.out) | exact HB.out)) hb); clear BK174; clear HB; have BK174 := n0_; have HB := n1_; clear n0_ n1_; (try clear hb); (try clear hb2); (try clear hk); (try clear hi); have hcz9_0 : w8.cell? ⟨gb174, 0, none⟩ = some (.slice A0_0 l0_0.length c0_0) := (blk_cell BK174.out 0).trans rfl; have hcz9_1 : w8.cell? ⟨gb174, 1, none⟩ = some (.slice A0_1 l0_1.length c0_1) := (blk_cell BK174.out 1).trans rfl; have hfz9_0 := blk_frozen BK174.out 0; have hfz9_1 := blk_frozen BK174.out 1) | (go_at_call 50; (with_reducible refine (impl_sum.calls k _ _ l0_0 t176 _ ?side1 ?side2 A4.out).mono ?_); (case side1 => repeat (first | exact (Kd.C_below HR0_0.out HB.out) | (with_reducible refine Kd.C_alloc ?_ _) | (with_reducible refine Kd.C_drewN ?_ _) | (with_reducible refine Kd.C_drew ?_))); (case side2 => exact HC0_0.out); rintro e w' ⟨rfl, ⟨nd, rfl⟩⟩; (try first | exact ⟨rfl, _, World.drewN_drewN _ _ _⟩ | exact ⟨rfl, _, Eq.trans (World.drewN_drewN _ _ _) (congrArg (World.drewN _) (Nat.add_assoc _ _ _))⟩)) | (go_at_call 50; (with_reducible refine (impl_sum.calls k _ _ l0_1 t177 _ ?side1 ?side2 A5.out).mono ?_); (case side1 => repeat (first | exact (Kd.C_below HR0_1.out (by repeat (first | (with_reducible first | exact HB.out | apply below_alloc | apply pw_below_drewN | apply below_drew1 | refine below_set ?_ GE174.out) | exact HB.out))) | (with_reducible refine Kd.C_alloc ?_ _) | (with_reducible refine Kd.C_drewN ?_ _) | (with_reducible refine Kd.C_drew ?_))); (case side2 => exact HC0_1.out); rintro e w' ⟨rfl, ⟨nd, rfl⟩⟩; (try first | exact ⟨rfl, _, World.drewN_drewN _ _ _⟩ | exact ⟨rfl, _, Eq.trans (World.drewN_drewN _ _ _) (congrArg (World.drewN _) (Nat.add_assoc _ _ _))⟩)))
  repeat (go_quiet (first | ((with_reducible refine gate_dst (N := 1) rfl ?_); refine box_event ?hg (N := 1) ?hd (cs := #[.slice A0_0 l0_0.length c0_0, .slice A0_1 l0_1.length c0_1]) (t := 74) ?hr ?_; (case hd => rfl); (case hg => rfl); (case hr => first | (go_simp; done) | (go_simp; rfl)); intro gb174 hg w6 hbox hb; have n0_ := Aside0.mk (below_step (by repeat (first | (with_reducible first | exact HB.out | apply below_alloc | apply pw_below_drewN | apply below_drew1) | exact HB.out)) hb); have n1_ := Aside0.mk (hbox); have n2_ := Aside0.mk ((by rw [hg]; exact (below_size (by repeat (first | (with_reducible first | exact HB.out | apply below_alloc | apply pw_below_drewN | apply below_drew1) | exact HB.out))) : w.heap.size ≤ gb174)); have n3_ := Aside0.mk ((by rw [hg]; exact (below_size (by repeat (first | (with_reducible first | exact HB.out | apply below_alloc | apply pw_below_drewN | apply below_drew1) | exact HB.out))) : w.heap.size ≤ gb174)); clear HB; have HB := n0_; have BK174 := n1_; have GW174 := n2_; have GE174 := n3_; clear n0_ n1_ n2_ n3_; clear hb hbox hg; have hcz7_0 : w6.cell? ⟨gb174, 0, none⟩ = some (.slice A0_0 l0_0.length c0_0) := (blk_cell BK174.out 0).trans rfl; have hcz7_1 : w6.cell? ⟨gb174, 1, none⟩ = some (.slice A0_1 l0_1.length c0_1) := (blk_cell BK174.out 1).trans rfl; have hfz7_0 := blk_frozen BK174.out 0; have hfz7_1 := blk_frozen BK174.out 1) | (go_at_call 155; (with_reducible refine (impl_IsShape.calls k _ _ l0_0 _ _ l0_1 true _ ?side1 ?side2 ?side3 ?side4 A2.out).mono ?_); (case side1 => repeat (first | exact (Kd.C_below HR0_0.out HB.out) | (with_reducible refine Kd.C_alloc ?_ _) | (with_reducible refine Kd.C_drewN ?_ _) | (with_reducible refine Kd.C_drew ?_))); (case side2 => exact HC0_0.out); (case side3 => repeat (first | exact (Kd.C_below HR0_1.out HB.out) | (with_reducible refine Kd.C_alloc ?_ _) | (with_reducible refine Kd.C_drewN ?_ _) | (with_reducible refine Kd.C_drew ?_))); (case side4 => exact HC0_1.out); rintro e w8 ⟨rfl, hb⟩; have n0_ := Aside0.mk (blk_below (g := gb174) (o := .cells #[.slice A0_0 l0_0.length c0_0, .slice A0_1 l0_1.length c0_1] 74 (0, 0)) (by (with_reducible repeat (first | refine blk_drewN ?_ _ | refine blk_drew ?_ | refine blk_alloc ?_ _)); exact BK174.out) hb); have n1_ := Aside0.mk (below_step (by repeat (first | (with_reducible first | exact HB.out | apply below_alloc | apply pw_below_drewN | apply below_drew1 | refine below_set ?_ GE174.out) | exact HB.out)) hb); clear BK174; clear HB; have BK174 := n0_; have HB := n1_; clear n0_ n1_; (try clear hb); (try clear hb2); (try clear hk); (try clear hi); have hcz9_0 : w8.cell? ⟨gb174, 0, none⟩ = some (.slice A0_0 l0_0.length c0_0) := (blk_cell BK174.out 0).trans rfl; have hcz9_1 : w8.cell? ⟨gb174, 1, none⟩ = some (.slice A0_1 l0_1.length c0_1) := (blk_cell BK174.out 1).trans rfl; have hfz9_0 := blk_frozen BK174.out 0; have hfz9_1 := blk_frozen BK174.out 1) | (go_at_call 50; (with_reducible refine (impl_sum.calls k _ _ l0_0 t176 _ ?side1 ?side2 A4.out).mono ?_); (case side1 => repeat (first | exact (Kd.C_below HR0_0.out HB.out) | (with_reducible refine Kd.C_alloc ?_ _) | (with_reducible refine Kd.C_drewN ?_ _) | (with_reducible refine Kd.C_drew ?_))); (case side2 => exact HC0_0.out); rintro e w' ⟨rfl, ⟨nd, rfl⟩⟩; (try first | exact ⟨rfl, _, World.drewN_drewN _ _ _⟩ | exact ⟨rfl, _, Eq.trans (World.drewN_drewN _ _ _) (congrArg (World.drewN _) (Nat.add_assoc _ _ _))⟩)) | (go_at_call 50; (with_reducible refine (impl_sum.calls k _ _ l0_1 t177 _ ?side1 ?side2 A5.out).mono ?_); (case side1 => repeat (first | exact (Kd.C_below HR0_1.out (by repeat (first | (with_reducible first | exact HB.out | apply below_alloc | apply pw_below_drewN | apply below_drew1 | refine below_set ?_ GE174.out) | exact HB.out))) | (with_reducible refine Kd.C_alloc ?_ _) | (with_reducible refine Kd.C_drewN ?_ _) | (with_reducible refine Kd.C_drew ?_))); (case side2 => exact HC0_1.out); rintro e w' ⟨rfl, ⟨nd, rfl⟩⟩; (try first | exact ⟨rfl, _, World.drewN_drewN _ _ _⟩ | exact ⟨rfl, _, Eq.trans (World.drewN_drewN _ _ _) (congrArg (World.drewN _) (Nat.add_assoc _ _ _))⟩))); try go_wp2_with (first | ((with_reducible refine gate_dst (N := 1) rfl ?_); refine box_event ?hg (N := 1) ?hd (cs := #[.slice A0_0 l0_0.length c0_0, .slice A0_1 l0_1.length c0_1]) (t := 74) ?hr ?_; (case hd => rfl); (case hg => rfl); (case hr => first | (go_simp; done) | (go_simp; rfl)); intro gb174 hg w6 hbox hb; have n0_ := Aside0.mk (below_step (by repeat (first | (with_reducible first | exact HB.out | apply below_alloc | apply pw_below_drewN | apply below_drew1) | exact HB.out)) hb); have n1_ := Aside0.mk (hbox); have n2_ := Aside0.mk ((by rw [hg]; exact (below_size (by repeat (first | (with_reducible first | exact HB.out | apply below_alloc | apply pw_below_drewN | apply below_drew1) | exact HB.out))) : w.heap.size ≤ gb174)); have n3_ := Aside0.mk ((by rw [hg]; exact (below_size (by repeat (first | (with_reducible first | exact HB.out | apply below_alloc | apply pw_below_drewN | apply below_drew1) | exact HB.out))) : w.heap.size ≤ gb174)); clear HB; have HB := n0_; have BK174 := n1_; have GW174 := n2_; have GE174 := n3_; clear n0_ n1_ n2_ n3_; clear hb hbox hg; have hcz7_0 : w6.cell? ⟨gb174, 0, none⟩ = some (.slice A0_0 l0_0.length c0_0) := (blk_cell BK174.out 0).trans rfl; have hcz7_1 : w6.cell? ⟨gb174, 1, none⟩ = some (.slice A0_1 l0_1.length c0_1) := (blk_cell BK174.out 1).trans rfl; have hfz7_0 := blk_frozen BK174.out 0; have hfz7_1 := blk_frozen BK174.out 1) | (go_at_call 155; (with_reducible refine (impl_IsShape.calls k _ _ l0_0 _ _ l0_1 true _ ?side1 ?side2 ?side3 ?side4 A2.out).mono ?_); (case side1 => repeat (first | exact (Kd.C_below HR0_0.out HB.out) | (with_reducible refine Kd.C_alloc ?_ _) | (with_reducible refine Kd.C_drewN ?_ _) | (with_reducible refine Kd.C_drew ?_))); (case side2 => exact HC0_0.out); (case side3 => repeat (first | exact (Kd.C_below HR0_1.out HB.out) | (with_reducible refine Kd.C_alloc ?_ _) | (with_reducible refine Kd.C_drewN ?_ _) | (with_reducible refine Kd.C_drew ?_))); (case side4 => exact HC0_1.out); rintro e w8 ⟨rfl, hb⟩; have n0_ := Aside0.mk (blk_below (g := gb174) (o := .cells #[.slice A0_0 l0_0.length c0_0, .slice A0_1 l0_1.length c0_1] 74 (0, 0)) (by (with_reducible repeat (first | refine blk_drewN ?_ _ | refine blk_drew ?_ | refine blk_alloc ?_ _)); exact BK174.out) hb); have n1_ := Aside0.mk (below_step (by repeat (first | (with_reducible first | exact HB.out | apply below_alloc | apply pw_below_drewN | apply below_drew1 | refine below_set ?_ GE174.out) | exact HB.out)) hb); clear BK174; clear HB; have BK174 := n0_; have HB := n1_; clear n0_ n1_; (try clear hb); (try clear hb2); (try clear hk); (try clear hi); have hcz9_0 : w8.cell? ⟨gb174, 0, none⟩ = some (.slice A0_0 l0_0.length c0_0) := (blk_cell BK174.out 0).trans rfl; have hcz9_1 : w8.cell? ⟨gb174, 1, none⟩ = some (.slice A0_1 l0_1.length c0_1) := (blk_cell BK174.out 1).trans rfl; have hfz9_0 := blk_frozen BK174.out 0; have hfz9_1 := blk_frozen BK174.out 1) | (go_at_call 50; (with_reducible refine (impl_sum.calls k _ _ l0_0 t176 _ ?side1 ?side2 A4.out).mono ?_); (case side1 => repeat (first | exact (Kd.C_below HR0_0.out HB.out) | (with_reducible refine Kd.C_alloc ?_ _) | (with_reducible refine Kd.C_drewN ?_ _) | (with_reducible refine Kd.C_drew ?_))); (case side2 => exact HC0_0.out); rintro e w' ⟨rfl, ⟨nd, rfl⟩⟩; (try first | exact ⟨rfl, _, World.drewN_drewN _ _ _⟩ | exact ⟨rfl, _, Eq.trans (World.drewN_drewN _ _ _) (congrArg (World.drewN _) (Nat.add_assoc _ _ _))⟩)) | (go_at_call 50; (with_reducible refine (impl_sum.calls k _ _ l0_1 t177 _ ?side1 ?side2 A5.out).mono ?_); (case side1 => repeat (first | exact (Kd.C_below HR0_1.out (by repeat (first | (with_reducible first | exact HB.out | apply below_alloc | apply pw_below_drewN | apply below_drew1 | refine below_set ?_ GE174.out) | exact HB.out))) | (with_reducible refine Kd.C_alloc ?_ _) | (with_reducible refine Kd.C_drewN ?_ _) | (with_reducible refine Kd.C_drew ?_))); (case side2 => exact HC0_1.out); rintro e w' ⟨rfl, ⟨nd, rfl⟩⟩; (try first | exact ⟨rfl, _, World.drewN_drewN _ _ _⟩ | exact ⟨rfl, _, Eq.trans (World.drewN_drewN _ _ _) (congrArg (World.drewN _) (Nat.add_assoc _ _ _))⟩))))
  go_ret
  exact ⟨by first | rfl | (simp [errW_none, errW_some] <;> rfl) | (simp [*, errW_none, errW_some] <;> rfl), by repeat (first | (with_reducible first | exact HB.out | apply below_alloc | apply pw_below_drewN | apply below_drew1 | refine below_set ?_ GE174.out) | exact HB.out)⟩
 ·
  replace c3 := Bool.eq_false_iff.mpr c3
  subst c3
  have H1 : (some (-1)) = some r := by rw [if_neg (show ¬ (false = true) by decide)] at H; exact H
  clear H
  have H := H1
  clear H1
  obtain rfl := Option.some.inj H
  go_enter Tryz.func186, Tryz.ntmps186
  go_wp2_with (first | ((with_reducible refine gate_dst (N := 1) rfl ?_); refine box_event ?hg (N := 1) ?hd (cs := #[.slice A0_0 l0_0.length c0_0, .slice A0_1 l0_1.length c0_1]) (t := 74) ?hr ?_; (case hd => rfl); (case hg => rfl); (case hr => first | (go_simp; done) | (go_simp; rfl)); intro gb174 hg w10 hbox hb; have n0_ := Aside0.mk (below_step (by repeat (first | (with_reducible first | exact HB.out | apply below_alloc | apply pw_below_drewN | apply below_drew1) | exact HB.out)) hb); have n1_ := Aside0.mk (hbox); have n2_ := Aside0.mk ((by rw [hg]; exact (below_size (by repeat (first | (with_reducible first | exact HB.out | apply below_alloc | apply pw_below_drewN | apply below_drew1) | exact HB.out))) : w.heap.size ≤ gb174)); have n3_ := Aside0.mk ((by rw [hg]; exact (below_size (by repeat (first | (with_reducible first | exact HB.out | apply below_alloc | apply pw_below_drewN | apply below_drew1) | exact HB.out))) : w.heap.size ≤ gb174)); clear HB; have HB := n0_; have BK174 := n1_; have GW174 := n2_; have GE174 := n3_; clear n0_ n1_ n2_ n3_; clear hb hbox hg; have hcz11_0 : w10.cell? ⟨gb174, 0, none⟩ = some (.slice A0_0 l0_0.length c0_0) := (blk_cell BK174.out 0).trans rfl; have hcz11_1 : w10.cell? ⟨gb174, 1, none⟩ = some (.slice A0_1 l0_1.length c0_1) := (blk_cell BK174.out 1).trans rfl; have hfz11_0 := blk_frozen BK174.out 0; have hfz11_1 := blk_frozen BK174.out 1) | (go_at_call 155; (with_reducible refine (impl_IsShape.calls k _ _ l0_0 _ _ l0_1 false _ ?side1 ?side2 ?side3 ?side4 A2.out).mono ?_); (case side1 => repeat (first | exact (Kd.C_below HR0_0.out HB.out) | (with_reducible refine Kd.C_alloc ?_ _) | (with_reducible refine Kd.C_drewN ?_ _) | (with_reducible refine Kd.C_drew ?_))); (case side2 => exact HC0_0.out); (case side3 => repeat (first | exact (Kd.C_below HR0_1.out HB.out) | (with_reducible refine Kd.C_alloc ?_ _) | (with_reducible refine Kd.C_drewN ?_ _) | (with_reducible refine Kd.C_drew ?_))); (case side4 => exact HC0_1.out); rintro e w12 ⟨rfl, hb⟩; have n0_ := Aside0.mk (blk_below (g := gb174) (o := .cells #[.slice A0_0 l0_0.length c0_0, .slice A0_1 l0_1.length c0_1] 74 (0, 0)) (by (with_reducible repeat (first | refine blk_drewN ?_ _ | refine blk_drew ?_ | refine blk_alloc ?_ _)); exact BK174.out) hb); have n1_ := Aside0.mk (below_step (by repeat (first | (with_reducible first | exact HB.out | apply below_alloc | apply pw_below_drewN | apply below_drew1 | refine below_set ?_ GE174.out) | exact HB.out)) hb); clear BK174; clear HB; have BK174 := n0_; have HB := n1_; clear n0_ n1_; (try clear hb); (try clear hb2); (try clear hk); (try clear hi)))
  repeat (go_quiet (first | ((with_reducible refine gate_dst (N := 1) rfl ?_); refine box_event ?hg (N := 1) ?hd (cs := #[.slice A0_0 l0_0.length c0_0, .slice A0_1 l0_1.length c0_1]) (t := 74) ?hr ?_; (case hd => rfl); (case hg => rfl); (case hr => first | (go_simp; done) | (go_simp; rfl)); intro gb174 hg w10 hbox hb; have n0_ := Aside0.mk (below_step (by repeat (first | (with_reducible first | exact HB.out | apply below_alloc | apply pw_below_drewN | apply below_drew1) | exact HB.out)) hb); have n1_ := Aside0.mk (hbox); have n2_ := Aside0.mk ((by rw [hg]; exact (below_size (by repeat (first | (with_reducible first | exact HB.out | apply below_alloc | apply pw_below_drewN | apply below_drew1) | exact HB.out))) : w.heap.size ≤ gb174)); have n3_ := Aside0.mk ((by rw [hg]; exact (below_size (by repeat (first | (with_reducible first | exact HB.out | apply below_alloc | apply pw_below_drewN | apply below_drew1) | exact HB.out))) : w.heap.size ≤ gb174)); clear HB; have HB := n0_; have BK174 := n1_; have GW174 := n2_; have GE174 := n3_; clear n0_ n1_ n2_ n3_; clear hb hbox hg; have hcz11_0 : w10.cell? ⟨gb174, 0, none⟩ = some (.slice A0_0 l0_0.length c0_0) := (blk_cell BK174.out 0).trans rfl; have hcz11_1 : w10.cell? ⟨gb174, 1, none⟩ = some (.slice A0_1 l0_1.length c0_1) := (blk_cell BK174.out 1).trans rfl; have hfz11_0 := blk_frozen BK174.out 0; have hfz11_1 := blk_frozen BK174.out 1) | (go_at_call 155; (with_reducible refine (impl_IsShape.calls k _ _ l0_0 _ _ l0_1 false _ ?side1 ?side2 ?side3 ?side4 A2.out).mono ?_); (case side1 => repeat (first | exact (Kd.C_below HR0_0.out HB.out) | (with_reducible refine Kd.C_alloc ?_ _) | (with_reducible refine Kd.C_drewN ?_ _) | (with_reducible refine Kd.C_drew ?_))); (case side2 => exact HC0_0.out); (case side3 => repeat (first | exact (Kd.C_below HR0_1.out HB.out) | (with_reducible refine Kd.C_alloc ?_ _) | (with_reducible refine Kd.C_drewN ?_ _) | (with_reducible refine Kd.C_drew ?_))); (case side4 => exact HC0_1.out); rintro e w12 ⟨rfl, hb⟩; have n0_ := Aside0.mk (blk_below (g := gb174) (o := .cells #[.slice A0_0 l0_0.length c0_0, .slice A0_1 l0_1.length c0_1] 74 (0, 0)) (by (with_reducible repeat (first | refine blk_drewN ?_ _ | refine blk_drew ?_ | refine blk_alloc ?_ _)); exact BK174.out) hb); have n1_ := Aside0.mk (below_step (by repeat (first | (with_reducible first | exact HB.out | apply below_alloc | apply pw_below_drewN | apply below_drew1 | refine below_set ?_ GE174.out) | exact HB.out)) hb); clear BK174; clear HB; have BK174 := n0_; have HB := n1_; clear n0_ n1_; (try clear hb); (try clear hb2); (try clear hk); (try clear hi))); try go_wp2_with (first | ((with_reducible refine gate_dst (N := 1) rfl ?_); refine box_event ?hg (N := 1) ?hd (cs := #[.slice A0_0 l0_0.length c0_0, .slice A0_1 l0_1.length c0_1]) (t := 74) ?hr ?_; (case hd => rfl); (case hg => rfl); (case hr => first | (go_simp; done) | (go_simp; rfl)); intro gb174 hg w10 hbox hb; have n0_ := Aside0.mk (below_step (by repeat (first | (with_reducible first | exact HB.out | apply below_alloc | apply pw_below_drewN | apply below_drew1) | exact HB.out)) hb); have n1_ := Aside0.mk (hbox); have n2_ := Aside0.mk ((by rw [hg]; exact (below_size (by repeat (first | (with_reducible first | exact HB.out | apply below_alloc | apply pw_below_drewN | apply below_drew1) | exact HB.out))) : w.heap.size ≤ gb174)); have n3_ := Aside0.mk ((by rw [hg]; exact (below_size (by repeat (first | (with_reducible first | exact HB.out | apply below_alloc | apply pw_below_drewN | apply below_drew1) | exact HB.out))) : w.heap.size ≤ gb174)); clear HB; have HB := n0_; have BK174 := n1_; have GW174 := n2_; have GE174 := n3_; clear n0_ n1_ n2_ n3_; clear hb hbox hg; have hcz11_0 : w10.cell? ⟨gb174, 0, none⟩ = some (.slice A0_0 l0_0.length c0_0) := (blk_cell BK174.out 0).trans rfl; have hcz11_1 : w10.cell? ⟨gb174, 1, none⟩ = some (.slice A0_1 l0_1.length c0_1) := (blk_cell BK174.out 1).trans rfl; have hfz11_0 := blk_frozen BK174.out 0; have hfz11_1 := blk_frozen BK174.out 1) | (go_at_call 155; (with_reducible refine (impl_IsShape.calls k _ _ l0_0 _ _ l0_1 false _ ?side1 ?side2 ?side3 ?side4 A2.out).mono ?_); (case side1 => repeat (first | exact (Kd.C_below HR0_0.out HB.out) | (with_reducible refine Kd.C_alloc ?_ _) | (with_reducible refine Kd.C_drewN ?_ _) | (with_reducible refine Kd.C_drew ?_))); (case side2 => exact HC0_0.out); (case side3 => repeat (first | exact (Kd.C_below HR0_1.out HB.out) | (with_reducible refine Kd.C_alloc ?_ _) | (with_reducible refine Kd.C_drewN ?_ _) | (with_reducible refine Kd.C_drew ?_))); (case side4 => exact HC0_1.out); rintro e w12 ⟨rfl, hb⟩; have n0_ := Aside0.mk (blk_below (g := gb174) (o := .cells #[.slice A0_0 l0_0.length c0_0, .slice A0_1 l0_1.length c0_1] 74 (0, 0)) (by (with_reducible repeat (first | refine blk_drewN ?_ _ | refine blk_drew ?_ | refine blk_alloc ?_ _)); exact BK174.out) hb); have n1_ := Aside0.mk (below_step (by repeat (first | (with_reducible first | exact HB.out | apply below_alloc | apply pw_below_drewN | apply below_drew1 | refine below_set ?_ GE174.out) | exact HB.out)) hb); clear BK174; clear HB; have BK174 := n0_; have HB := n1_; clear n0_ n1_; (try clear hb); (try clear hb2); (try clear hk); (try clear hi))))
  go_ret
  exact ⟨by first | rfl | (simp [errW_none, errW_some] <;> rfl) | (simp [*, errW_none, errW_some] <;> rfl), by repeat (first | (with_reducible first | exact HB.out | apply below_alloc | apply pw_below_drewN | apply below_drew1 | refine below_set ?_ GE174.out) | exact HB.out)⟩
def impl_Tableau_own.l0 : Nat → List (List Int) → Int → Int → List Int → List (List Int) → Option (List Int × (List (List Int)))
  | 0, _, _, _, _, _ => none
  | k + 1, x11, x12, x13, x184000, x184001 => if x13 < x12 then (if 0 ≤ x13 then (if x13 < (x11.length : Int) then ((slices_Clone_int_int.f (rd_L3 x11 x13)).bind fun t185 => (if x184001.length < 5864062014805 then (impl_Tableau_own.l0 k x11 x12 (wrap64 (x13 + 1)) x184000 (x184001 ++ [t185])) else (none))) else (none)) else (none)) else (some (x184000, x184001))
def impl_Tableau_own.f (k : Nat) (l0_0 : List Int) (l0_1 : List (List Int)) : Option (List Int × (List (List Int))) := (slices_Clone_int_int.f l0_0).bind fun t180 => (impl_Tableau_own.l0 k l0_1 (l0_1.length : Int) 0 t180 ([] : List (List Int)))
def impl_Tableau_own.T5 : Bool × List (List Nat × List Nat) := (true, [([], []), ([0], [0]), ([], []), ([2], [2]), ([3], [3]), ([1, 4, 3], [1, 4]), ([0, 1, 2, 3, 4, 5], []), ([6, 5, 5, 0, 1, 2, 3, 4, 5], [5, 6])])
def impl_Tableau_own.B5 : List Nat := [0, 1, 0, 4, 12, 31, 63, 127]
theorem impl_Tableau_own.tab5 : rtab .any (opsOf Tryz.f205 5) = impl_Tableau_own.T5 := by kernel_rfl
theorem impl_Tableau_own.bits5 : waitsOk impl_Tableau_own.T5.2 impl_Tableau_own.B5 = true := by kernel_rfl
set_option maxHeartbeats 8000000 in
set_option maxRecDepth 100000 in
theorem impl_Tableau_own.calls (k : Nat) (A0_0 : Option Addr) (c0_0 : Nat) (l0_0 : List Int) (A0_1 : Option Addr) (c0_1 : Nat) (l0_1 : List (List Int)) (r1 : List Int) (r2 : List (List Int)) (w : World) (hr0_0 : Kd.C (Kd.int .i64) w A0_0 l0_0.length l0_0) (hc0_0 : l0_0.length ≤ c0_0) (hr0_1 : Kd.C (Kd.slice 3 (Kd.int .i64)) w A0_1 l0_1.length l0_1) (hc0_1 : l0_1.length ≤ c0_1) (h : impl_Tableau_own.f k l0_0 l0_1 = some (r1, r2)) :
  Calls Tryz.prog 205 #[.agg #[.slice A0_0 l0_0.length c0_0, .slice A0_1 l0_1.length c0_1]] w fun e w' => ∃ v0_ v1_ : Value, e = .returned (.agg #[v0_, v1_]) ∧ Kd.R (Kd.int .i64) 3 w' w.heap.size (fun _ => True) v0_ r1 ∧ Kd.S (Kd.slice 3 (Kd.int .i64)) 24 w' w.heap.size (fun k_ => some k_ ≠ (v0_ : Value).ownBlock) v1_ r2 ∧ Below w.heap.size w w' := by
 have hu79 := Tryz.underlying79
 have HR0_0 := Aside0.mk hr0_0
 have HC0_0 := Aside0.mk hc0_0
 clear hr0_0 hc0_0
 have HR0_1 := Aside0.mk hr0_1
 have HC0_1 := Aside0.mk hc0_1
 clear hr0_1 hc0_1
 have HB := Aside0.mk (Below.refl w.heap.size w)
 have H : ((slices_Clone_int_int.f l0_0).bind fun t180 => (impl_Tableau_own.l0 k l0_1 (l0_1.length : Int) 0 t180 ([] : List (List Int)))) = some (r1, r2) := h
 clear h
 replace H := Option.bind_eq_some_iff.mp H
 obtain ⟨t180, A20, H⟩ := H
 replace H : (impl_Tableau_own.l0 k l0_1 (l0_1.length : Int) 0 t180 ([] : List (List Int))) = some (r1, r2) := H
 have A2 := Aside0.mk A20
 clear A20
 have H' := Aside0.mk H
 clear H
 go_enter Tryz.func205, Tryz.ntmps205
 go_wp2_with (first | ((with_reducible refine gate_dst (N := 1) rfl ?_); refine box_event ?hg (N := 1) ?hd (cs := #[.slice A0_0 l0_0.length c0_0, .slice A0_1 l0_1.length c0_1]) (t := 79) ?hr ?_; (case hd => rfl); (case hg => rfl); (case hr => first | (go_simp; done) | (go_simp; rfl)); intro gb178 hg w3 hbox hb; have n0_ := Aside0.mk (below_step (by repeat (first | (with_reducible first | exact HB.out | apply below_alloc | apply pw_below_drewN | apply below_drew1) | exact HB.out)) hb); have n1_ := Aside0.mk (hbox); have n2_ := Aside0.mk ((by rw [hg]; exact (below_size (by repeat (first | (with_reducible first | exact HB.out | apply below_alloc | apply pw_below_drewN | apply below_drew1) | exact HB.out))) : w.heap.size ≤ gb178)); have n3_ := Aside0.mk ((by rw [hg]; exact (below_size (by repeat (first | (with_reducible first | exact HB.out | apply below_alloc | apply pw_below_drewN | apply below_drew1) | exact HB.out))) : w.heap.size ≤ gb178)); clear HB; have HB := n0_; have BK178 := n1_; have GW178 := n2_; have GE178 := n3_; clear n0_ n1_ n2_ n3_; clear hb hbox hg) | ((with_reducible refine gate_dst (N := 2) rfl ?_); refine box_event ?hg (N := 2) ?hd (cs := #[.slice none 0 0, .slice none 0 0]) (t := 79) ?hr ?_; (case hd => rfl); (case hg => rfl); (case hr => first | (go_simp; done) | (go_simp; rfl)); intro gb179 hg w4 hbox hb; have n0_ := Aside0.mk (blk_below (g := gb178) (o := .cells #[.slice A0_0 l0_0.length c0_0, .slice A0_1 l0_1.length c0_1] 79 (0, 0)) (by (with_reducible repeat (first | refine blk_drewN ?_ _ | refine blk_drew ?_ | refine blk_alloc ?_ _)); exact BK178.out) hb); have n1_ := Aside0.mk (below_step (by repeat (first | (with_reducible first | exact HB.out | apply below_alloc | apply pw_below_drewN | apply below_drew1 | refine below_set ?_ GE178.out) | exact HB.out)) hb); have n2_ := Aside0.mk (hbox); have n3_ := Aside0.mk ((by rw [hg]; exact (below_size (by repeat (first | (with_reducible first | exact HB.out | apply below_alloc | apply pw_below_drewN | apply below_drew1 | refine below_set ?_ GE178.out) | exact HB.out))) : w.heap.size ≤ gb179)); have n4_ := Aside0.mk ((by rw [hg]; exact (below_size (by repeat (first | (with_reducible first | exact HB.out | apply below_alloc | apply pw_below_drewN | apply below_drew1 | refine below_set ?_ GE178.out) | exact HB.out))) : w.heap.size ≤ gb179)); have n5_ := Aside0.mk ((by rw [hg]; exact Nat.ne_of_lt (blk_lt (g := gb178) (o := .cells #[.slice A0_0 l0_0.length c0_0, .slice A0_1 l0_1.length c0_1] 79 (0, 0)) (by (with_reducible repeat (first | refine blk_drewN ?_ _ | refine blk_drew ?_ | refine blk_alloc ?_ _)); exact BK178.out)) : gb178 ≠ gb179)); have n6_ := Aside0.mk ((by rw [hg]; exact Nat.ne_of_gt (blk_lt (g := gb178) (o := .cells #[.slice A0_0 l0_0.length c0_0, .slice A0_1 l0_1.length c0_1] 79 (0, 0)) (by (with_reducible repeat (first | refine blk_drewN ?_ _ | refine blk_drew ?_ | refine blk_alloc ?_ _)); exact BK178.out)) : gb179 ≠ gb178)); clear BK178; clear HB; have BK178 := n0_; have HB := n1_; have BK179 := n2_; have GW179 := n3_; have GE179 := n4_; have NB178_179 := n5_; have NB179_178 := n6_; clear n0_ n1_ n2_ n3_ n4_ n5_ n6_; clear hb hbox hg; have hnb5 := NB178_179.out; have hnc5 := NB179_178.out; have hcz6_0 : w4.cell? ⟨gb178, 0, none⟩ = some (.slice A0_0 l0_0.length c0_0) := (blk_cell BK178.out 0).trans rfl; have hcz6_1 : w4.cell? ⟨gb178, 1, none⟩ = some (.slice A0_1 l0_1.length c0_1) := (blk_cell BK178.out 1).trans rfl; have hfz6_0 := blk_frozen BK178.out 0; have hfz6_1 := blk_frozen BK178.out 1) | ((with_reducible refine gate_callee (f := 49) rfl ?_); refine goesL_ (some 8) rfl rfl Tryz.func49 (by kernel_rfl) rfl #[.slice A0_0 l0_0.length c0_0] rfl (by (try simp only [List.map_toArray, List.map_cons, List.map_nil]); first | done | rfl | (simp only [List.length_drop, List.length_take]; rfl)) ?_; (with_reducible refine (slices_Clone_int_int.calls _ _ l0_0 t180 _ ?side1 ?side2 A2.out).mono ?_); (case side1 => repeat (first | exact (Kd.C_below HR0_0.out HB.out) | (with_reducible refine Kd.C_alloc ?_ _) | (with_reducible refine Kd.C_drewN ?_ _) | (with_reducible refine Kd.C_drew ?_))); (case side2 => exact HC0_0.out); rintro e w7 ⟨v181, rfl, ho0, hb⟩; refine ⟨_, rfl, ?_⟩; have n0_ := Aside0.mk (Kd.R_lower ho0 (below_size (by repeat (first | (with_reducible first | exact HB.out | apply below_alloc | apply pw_below_drewN | apply below_drew1 | refine below_set ?_ GE178.out | refine below_set ?_ GE179.out) | exact HB.out)))); have n1_ := Aside0.mk (blk_below (g := gb178) (o := .cells #[.slice A0_0 l0_0.length c0_0, .slice A0_1 l0_1.length c0_1] 79 (0, 0)) (by (with_reducible repeat (first | refine blk_drewN ?_ _ | refine blk_drew ?_ | refine blk_alloc ?_ _)); exact BK178.out) hb); have n2_ := Aside0.mk (blk_below (g := gb179) (o := .cells #[.slice none 0 0, .slice none 0 0] 79 (0, 0)) (by (with_reducible repeat (first | refine blk_drewN ?_ _ | refine blk_drew ?_ | refine blk_alloc ?_ _)); exact BK179.out) hb); have n3_ := Aside0.mk (below_step (by repeat (first | (with_reducible first | exact HB.out | apply below_alloc | apply pw_below_drewN | apply below_drew1 | refine below_set ?_ GE178.out | refine below_set ?_ GE179.out) | exact HB.out)) hb); clear BK178; clear BK179; clear HB; have HO182 := n0_; have BK178 := n1_; have BK179 := n2_; have HB := n3_; clear n0_ n1_ n2_ n3_; (try clear hb); (try clear hb2); (try clear hk); (try clear hi); (try clear ho0); obtain ⟨Ao8, co8, eo8⟩ := Kd.R_slice HO182.out; subst eo8) | ((with_reducible refine gate_dst (N := 3) rfl ?_); refine box_event ?hg (N := 3) ?hd (cs := #[.slice none 0 0, .slice none 0 0]) (t := 79) ?hr ?_; (case hd => rfl); (case hg => rfl); (case hr => first | (go_simp; done) | (go_simp; rfl)); intro gb183 hg w9 hbox hb; have n0_ := Aside0.mk (Kd.R_below (by (with_reducible repeat (first | apply Kd.R_alloc | apply Kd.R_drewN | apply Kd.R_drew)); exact HO182.out) hb); have n1_ := Aside0.mk (blk_below (g := gb178) (o := .cells #[.slice A0_0 l0_0.length c0_0, .slice A0_1 l0_1.length c0_1] 79 (0, 0)) (by (with_reducible repeat (first | refine blk_drewN ?_ _ | refine blk_drew ?_ | refine blk_alloc ?_ _)); exact BK178.out) hb); have n2_ := Aside0.mk (blk_below (g := gb179) (o := .cells #[.slice none 0 0, .slice none 0 0] 79 (0, 0)) (by (with_reducible repeat (first | refine blk_drewN ?_ _ | refine blk_drew ?_ | refine blk_alloc ?_ _)); exact BK179.out) hb); have n3_ := Aside0.mk (below_step (by repeat (first | (with_reducible first | exact HB.out | apply below_alloc | apply pw_below_drewN | apply below_drew1 | refine below_set ?_ GE178.out | refine below_set ?_ GE179.out) | exact HB.out)) hb); have n4_ := Aside0.mk (hbox); have n5_ := Aside0.mk ((by rw [hg]; exact (below_size (by repeat (first | (with_reducible first | exact HB.out | apply below_alloc | apply pw_below_drewN | apply below_drew1 | refine below_set ?_ GE178.out | refine below_set ?_ GE179.out) | exact HB.out))) : w.heap.size ≤ gb183)); have n6_ := Aside0.mk ((by rw [hg]; exact (below_size (by repeat (first | (with_reducible first | exact HB.out | apply below_alloc | apply pw_below_drewN | apply below_drew1 | refine below_set ?_ GE178.out | refine below_set ?_ GE179.out) | exact HB.out))) : w.heap.size ≤ gb183)); have n7_ := Aside0.mk ((by rw [hg]; exact Nat.ne_of_lt (blk_lt (g := gb178) (o := .cells #[.slice A0_0 l0_0.length c0_0, .slice A0_1 l0_1.length c0_1] 79 (0, 0)) (by (with_reducible repeat (first | refine blk_drewN ?_ _ | refine blk_drew ?_ | refine blk_alloc ?_ _)); exact BK178.out)) : gb178 ≠ gb183)); have n8_ := Aside0.mk ((by rw [hg]; exact Nat.ne_of_gt (blk_lt (g := gb178) (o := .cells #[.slice A0_0 l0_0.length c0_0, .slice A0_1 l0_1.length c0_1] 79 (0, 0)) (by (with_reducible repeat (first | refine blk_drewN ?_ _ | refine blk_drew ?_ | refine blk_alloc ?_ _)); exact BK178.out)) : gb183 ≠ gb178)); have n9_ := Aside0.mk ((by rw [hg]; exact Nat.ne_of_lt (blk_lt (g := gb179) (o := .cells #[.slice none 0 0, .slice none 0 0] 79 (0, 0)) (by (with_reducible repeat (first | refine blk_drewN ?_ _ | refine blk_drew ?_ | refine blk_alloc ?_ _)); exact BK179.out)) : gb179 ≠ gb183)); have n10_ := Aside0.mk ((by rw [hg]; exact Nat.ne_of_gt (blk_lt (g := gb179) (o := .cells #[.slice none 0 0, .slice none 0 0] 79 (0, 0)) (by (with_reducible repeat (first | refine blk_drewN ?_ _ | refine blk_drew ?_ | refine blk_alloc ?_ _)); exact BK179.out)) : gb183 ≠ gb179)); clear HO182; clear BK178; clear BK179; clear HB; have HO182 := n0_; have BK178 := n1_; have BK179 := n2_; have HB := n3_; have BK183 := n4_; have GW183 := n5_; have GE183 := n6_; have NB178_183 := n7_; have NB183_178 := n8_; have NB179_183 := n9_; have NB183_179 := n10_; clear n0_ n1_ n2_ n3_ n4_ n5_ n6_ n7_ n8_ n9_ n10_; clear hb hbox hg; have hnb10 := NB183_178.out; have hnc10 := NB178_183.out; have hnb11 := NB183_179.out; have hnc11 := NB179_183.out; have hcz12_0 : w9.cell? ⟨gb183, 0, none⟩ = some (.slice none 0 0) := (blk_cell BK183.out 0).trans rfl; have hcz12_1 : w9.cell? ⟨gb183, 1, none⟩ = some (.slice none 0 0) := (blk_cell BK183.out 1).trans rfl; have hfz12_0 := blk_frozen BK183.out 0; have hfz12_1 := blk_frozen BK183.out 1; have hcz13_0 : w9.cell? ⟨gb178, 0, none⟩ = some (.slice A0_0 l0_0.length c0_0) := (blk_cell BK178.out 0).trans rfl; have hcz13_1 : w9.cell? ⟨gb178, 1, none⟩ = some (.slice A0_1 l0_1.length c0_1) := (blk_cell BK178.out 1).trans rfl; have hfz13_0 := blk_frozen BK178.out 0; have hfz13_1 := blk_frozen BK178.out 1))
 go_loopg [13] k (fun kq v13 w' => ∃ (x13_1 : Int) (x184001_1 : List (List Int)) (u184001 : Value), v13 = .int .i64 x13_1 ∧ Aside0 (impl_Tableau_own.l0 kq l0_1 (l0_1.length : Int) x13_1 t180 x184001_1 = some (r1, r2)) ∧ Aside0 (kq ≤ k) ∧ Aside0 (Kd.R (Kd.int .i64) 3 w' w.heap.size (fun _ => True) (.slice Ao8 t180.length co8) t180) ∧ Aside0 (Kd.S (Kd.slice 3 (Kd.int .i64)) 24 w' w.heap.size (fun k_ => some k_ ≠ ((.slice Ao8 t180.length co8) : Value).ownBlock) u184001 x184001_1) ∧ Aside0 (w'.heap[gb178]? = some (.cells #[(.slice A0_0 l0_0.length c0_0), (.slice A0_1 l0_1.length c0_1)] 79 (0, 0))) ∧ Aside0 (w'.heap[gb179]? = some (.cells #[(.slice none 0 0), (.slice none 0 0)] 79 (0, 0))) ∧ Aside0 (w'.heap[gb183]? = some (.cells #[(.slice Ao8 t180.length co8), u184001] 79 (0, 0))) ∧ Aside0 (Below w.heap.size w w'))
 case atStart => exact ⟨(0), (([] : List (List Int))), (.slice none 0 0), (by first | rfl | (simp; done) | (simp [*]; done)), H', ⟨Nat.le_refl _⟩, ⟨by (with_reducible repeat (first | apply Kd.R_alloc | apply Kd.R_drewN | apply Kd.R_drew)); exact Kd.R_mono (Kd.R_far (p := ⟨gb183, 1, none⟩) (Kd.R_far (p := ⟨gb183, 0, none⟩) (Kd.R_types HO182.out BK183.out (by decide)) (fun _ hk => hk.2) (.slice Ao8 t180.length co8)) (fun _ hk => hk.2) (.slice none 0 0)) (fun _ hk => trivial)⟩, ⟨by first | exact Kd.S_nil _ _ _ _ _ | exact Kd.N_nil _ _ _ _ _ | exact Kd.V_nil _ _ _ _ _ | exact Kd.Q_nil _ _ _ _ _ | exact Kd.R_nil _ _ _ _ _⟩, ⟨by (with_reducible repeat (first | refine blk_drewN ?_ _ | refine blk_drew ?_ | refine blk_alloc ?_ _)); refine blk_far ?_ NB178_183.out _; (with_reducible repeat (first | refine blk_drewN ?_ _ | refine blk_drew ?_ | refine blk_alloc ?_ _)); refine blk_far ?_ NB178_183.out _; (with_reducible repeat (first | refine blk_drewN ?_ _ | refine blk_drew ?_ | refine blk_alloc ?_ _)); exact BK178.out⟩, ⟨by (with_reducible repeat (first | refine blk_drewN ?_ _ | refine blk_drew ?_ | refine blk_alloc ?_ _)); refine blk_far ?_ NB179_183.out _; (with_reducible repeat (first | refine blk_drewN ?_ _ | refine blk_drew ?_ | refine blk_alloc ?_ _)); refine blk_far ?_ NB179_183.out _; (with_reducible repeat (first | refine blk_drewN ?_ _ | refine blk_drew ?_ | refine blk_alloc ?_ _)); exact BK179.out⟩, ⟨by (with_reducible repeat (first | refine blk_drewN ?_ _ | refine blk_drew ?_ | refine blk_alloc ?_ _)); refine blk_put (cs := #[.slice Ao8 t180.length co8, .slice none 0 0]) ?_ 1 _ rfl; (with_reducible repeat (first | refine blk_drewN ?_ _ | refine blk_drew ?_ | refine blk_alloc ?_ _)); refine blk_put (cs := #[.slice none 0 0, .slice none 0 0]) ?_ 0 _ rfl; (with_reducible repeat (first | refine blk_drewN ?_ _ | refine blk_drew ?_ | refine blk_alloc ?_ _)); exact BK183.out⟩, ⟨by repeat (first | (with_reducible first | exact HB.out | apply below_alloc | apply pw_below_drewN | apply below_drew1 | refine below_set ?_ GE178.out | refine below_set ?_ GE179.out | refine below_set ?_ GE183.out) | exact HB.out)⟩⟩
 case round =>
  clear H'
  try clear c1
  try clear c2
  try clear p2
  try clear c4
  try clear c5
  try clear c10
  try clear c11
  try clear hcz12_0
  try clear hcz12_1
  try clear hcz13_0
  try clear hcz13_1
  try clear hcz6_0
  try clear hcz6_1
  try clear hfz12_0
  try clear hfz12_1
  try clear hfz13_0
  try clear hfz13_1
  try clear hfz6_0
  try clear hfz6_1
  obtain ⟨x13_1, x184001_1, u184001, rfl, HA, HK1, HO_184000, HO_184001, BK178, BK179, BK183, HB⟩ := hrel
  cases gk with
  | zero => exact absurd HA.out (by simp [impl_Tableau_own.l0])
  | succ k1 =>
   have H := HA.out
   clear HA
   simp only [impl_Tableau_own.l0] at H
   by_cases c14 : x13_1 < (l0_1.length : Int)
   ·
    rw [if_pos c14] at H
    have c14b0 : decide (x13_1 < (l0_1.length : Int)) = true := decide_eq_true c14
    clear c14
    by_cases c15 : 0 ≤ x13_1
    ·
     rw [if_pos c15] at H
     have c15b0 : decide (0 ≤ x13_1) = true := decide_eq_true c15
     clear c15
     by_cases c16 : x13_1 < (l0_1.length : Int)
     ·
      rw [if_pos c16] at H
      have c16b0 : decide (x13_1 < (l0_1.length : Int)) = true := decide_eq_true c16
      clear c16
      replace H := Option.bind_eq_some_iff.mp H
      obtain ⟨t185, A170, H⟩ := H
      replace H : (if x184001_1.length < 5864062014805 then (impl_Tableau_own.l0 k1 l0_1 (l0_1.length : Int) (wrap64 (x13_1 + 1)) t180 (x184001_1 ++ [t185])) else (none)) = some (r1, r2) := H
      have A17 := Aside0.mk A170
      clear A170
      by_cases c18 : x184001_1.length < 5864062014805
      ·
       rw [if_pos c18] at H
       have LMc18 := Aside0.mk c18
       clear c18
       obtain ⟨y188, hy188⟩ : ∃ y_ : List (List Int), y_ = (x184001_1 ++ [t185]) := ⟨_, rfl⟩
       replace H : (impl_Tableau_own.l0 k1 l0_1 (l0_1.length : Int) (wrap64 (x13_1 + 1)) t180 y188) = some (r1, r2) := by first | (rw [hy188]; with_reducible exact H) | (have H2_ := (Option.bind_some _ _).symm.trans H; rw [hy188]; with_reducible exact H2_) | (have H2_ := (Option.bind_some _ _).symm.trans H; with_reducible exact H2_) | with_reducible exact H | (rw [hy188]; exact H) | exact H
       have Ny188 := Aside0.mk hy188
       clear hy188
       have H' := Aside0.mk H
       clear H
       have p184 : 0 ≤ (x13_1 : Int) := of_decide_eq_true (by first | (with_reducible assumption) | assumption)
       have q184 : x13_1 < (l0_1.length : Int) := of_decide_eq_true (by first | (with_reducible assumption) | assumption)
       obtain ⟨ad184, A184_0, c184_0, e184, hx184_0, hl184_0, hi184_0⟩ := at_L3 HR0_1.out x13_1 p184 q184
       cases e184
       replace hx184_0 := (HB.out.cell (World.block_lt_of_cell? w _ hx184_0)).trans hx184_0
       have HR184_0 := Aside0.mk hi184_0
       have HC184_0 := Aside0.mk hl184_0
       clear hi184_0 hl184_0
       replace p184 := eq_true p184
       replace q184 := eq_true q184
       try go_wp2
       have n0_ := Aside0.mk (Kd.R_drew HO_184000.out)
       have n1_ := Aside0.mk (Kd.S_drew HO_184001.out)
       have n2_ := Aside0.mk (blk_drew BK178.out)
       have n3_ := Aside0.mk (blk_drew BK179.out)
       have n4_ := Aside0.mk (blk_drew BK183.out)
       have n5_ := Aside0.mk (below_drew1 HB.out)
       clear HO_184000
       clear HO_184001
       clear BK178
       clear BK179
       clear BK183
       clear HB
       have HO_184000 := n0_
       have HO_184001 := n1_
       have BK178 := n2_
       have BK179 := n3_
       have BK183 := n4_
       have HB := n5_
       clear n0_ n1_ n2_ n3_ n4_ n5_
       refine start_ (n := 8) (S := fun w' => w'.cell? ⟨gb183, 0, none⟩ = some (.slice Ao8 t180.length co8) ∧ w'.cell? ⟨gb183, 1, none⟩ = some (u184001)) (ds := [7]) #[false, false, false, false, false, false, false, false] (by kernel_rfl) rfl rfl ⟨(blk_cell BK183.out 0).trans rfl, (blk_cell BK183.out 1).trans rfl⟩ (fun hHeld => ?_); refine with_tabW impl_Tableau_own.tab5 impl_Tableau_own.bits5 (fun HT_ HW_ => ?_)
       generalize wr.drew = w19 at HO_184000 HO_184001 BK178 BK179 BK183 HB hHeld ⊢
       refine pure_ (i := 0) (N := some 17) (v := ?_) (a' := ?_) #[true, false, false, false, false, false, false, false] rfl rfl (any_of HT_.out (by kernel_rfl)) (fun _ _ _ h => h) (Or.inl ⟨by rfl, ?_⟩) ?_ ?_
       rotate_left
       ·
        intro w'
        go_simp
        with_reducible rfl
       rotate_left
       ·
        simp only [Act.put, List.setIfInBounds_toArray, List.set_cons_zero, List.set_cons_succ, i64_w, i32_w]
        rfl
       refine pure_ (i := 2) (N := some 19) (v := ?_) (a' := ?_) #[true, false, true, false, false, false, false, false] rfl rfl (any_of HT_.out (by kernel_rfl)) (fun _ _ _ h => h) (Or.inl ⟨by rfl, ?_⟩) ?_ ?_
       rotate_left
       ·
        intro w'
        go_simp
        with_reducible rfl
       rotate_left
       ·
        simp only [Act.put, List.setIfInBounds_toArray, List.set_cons_zero, List.set_cons_succ, i64_w, i32_w]
        rfl
       refine take_ (i := 1) (N := some 18) (v := ?_) (a' := ?_) #[true, true, true, false, false, false, false, false] rfl rfl (take_ofW HT_.out HW_.out (by kernel_rfl)) (fun _ _ _ h => h) (Or.inl ⟨by rfl, ?_⟩) hHeld ?_ ?_
       rotate_left
       ·
        rintro w' ⟨s0, s1⟩
        go_simp
        with_reducible rfl
       rotate_left
       ·
        simp only [Act.put, List.setIfInBounds_toArray, List.set_cons_zero, List.set_cons_succ, i64_w, i32_w]
        rfl
       refine one_ (i := 3) (N := some 20) #[true, true, true, true, false, false, false, false] rfl rfl (one_of HT_.out (by kernel_rfl)) (by decide) (fun K hK => ?_)
       refine goes_ Tryz.func49 (by kernel_rfl) rfl #[.slice A184_0 (rd_L3 l0_1 x13_1).length c184_0] (by rfl) rfl rfl (by (try simp only [List.map_toArray, List.map_cons, List.map_nil]); first | done | rfl | (simp only [List.length_drop, List.length_take]; rfl)) ?_
       with_reducible refine (slices_Clone_int_int.calls _ _ (rd_L3 l0_1 x13_1) t185 _ ?side1 ?side2 A17.out).mono ?_
       (case side1 => repeat (first | exact (Kd.C_below HR184_0.out HB.out) | (with_reducible refine Kd.C_alloc ?_ _) | (with_reducible refine Kd.C_drewN ?_ _) | (with_reducible refine Kd.C_drew ?_)))
       (case side2 => exact HC184_0.out)
       rintro e w20 ⟨v186, rfl, ho0, hb⟩
       refine ⟨_, rfl, ?_⟩
       have n0_ := Aside0.mk (Kd.R_elder' (by (with_reducible repeat (first | apply Kd.R_alloc | apply Kd.R_drewN | apply Kd.R_drew)); exact HO_184000.out) (Kd.R_base ho0) hb)
       have n1_ := Aside0.mk (Kd.S_elder' (by (with_reducible repeat (first | apply Kd.S_alloc | apply Kd.S_drewN | apply Kd.S_drew)); exact HO_184001.out) (Kd.R_base ho0) hb)
       have n2_ := Aside0.mk (Kd.R_lower (Kd.R_new' ho0 (Kd.R_lt (by (with_reducible repeat (first | apply Kd.R_alloc | apply Kd.R_drewN | apply Kd.R_drew)); exact HO_184000.out))) (below_size (by repeat (first | (with_reducible first | exact HB.out | apply below_alloc | apply pw_below_drewN | apply below_drew1 | refine below_set ?_ GE178.out | refine below_set ?_ GE179.out | refine below_set ?_ GE183.out) | exact HB.out))))
       have n3_ := Aside0.mk (blk_below (g := gb178) (o := .cells #[.slice A0_0 l0_0.length c0_0, .slice (some ad184) l0_1.length c0_1] 79 (0, 0)) (by (with_reducible repeat (first | refine blk_drewN ?_ _ | refine blk_drew ?_ | refine blk_alloc ?_ _)); exact BK178.out) hb)
       have n4_ := Aside0.mk (blk_below (g := gb179) (o := .cells #[.slice none 0 0, .slice none 0 0] 79 (0, 0)) (by (with_reducible repeat (first | refine blk_drewN ?_ _ | refine blk_drew ?_ | refine blk_alloc ?_ _)); exact BK179.out) hb)
       have n5_ := Aside0.mk (blk_below (g := gb183) (o := .cells #[.slice Ao8 t180.length co8, u184001] 79 (0, 0)) (by (with_reducible repeat (first | refine blk_drewN ?_ _ | refine blk_drew ?_ | refine blk_alloc ?_ _)); exact BK183.out) hb)
       have n6_ := Aside0.mk (below_step (by repeat (first | (with_reducible first | exact HB.out | apply below_alloc | apply pw_below_drewN | apply below_drew1 | refine below_set ?_ GE178.out | refine below_set ?_ GE179.out | refine below_set ?_ GE183.out) | exact HB.out)) hb)
       clear HO_184000
       clear HO_184001
       clear BK178
       clear BK179
       clear BK183
       clear HB
       have HO_184000 := n0_
       have HO_184001 := n1_
       have HO187 := n2_
       have BK178 := n3_
       have BK179 := n4_
       have BK183 := n5_
       have HB := n6_
       clear n0_ n1_ n2_ n3_ n4_ n5_ n6_
       (try clear hb)
       (try clear hb2)
       (try clear hk)
       (try clear hi)
       (try clear ho0)
       obtain ⟨Ao22, co22, eo22⟩ := Kd.R_slice HO187.out
       (first | subst eo22 | (injection eo22 with f1_ f2_ f3_; have f4_ := f1_.symm; have f5_ := f3_.symm; clear f1_ f2_ f3_; subst f4_; subst f5_))
       refine hK.out _ _ ⟨(blk_cell BK183.out 0).trans rfl, (blk_cell BK183.out 1).trans rfl⟩ (fun hHeld => ?_)
       clear hK K
       refine norm_ (a' := ?_) ?_ ?_
       rotate_left
       ·
        show Act.put _ (some 20) _ = _
        simp only [Act.put, List.setIfInBounds_toArray, List.set_cons_zero, List.set_cons_succ, i64_w, i32_w]
        rfl
       refine one_ (i := 4) (N := some 21) #[true, true, true, true, true, false, false, false] rfl rfl (one_of HT_.out (by kernel_rfl)) (by decide) (fun K hK => ?_)
       refine value_ (w1 := ?_) (v := ?_) (by rfl) rfl ?_ ?_
       rotate_left 2
       ·
        go_simp
        constructor
        ·
         rfl
        ·
         rfl
       refine hK.out _ _ ⟨(blk_cell (blk_alloc BK183.out _) 0).trans rfl, (blk_cell (blk_alloc BK183.out _) 1).trans rfl⟩ (fun hHeld => ?_)
       clear hK K
       refine norm_ (a' := ?_) ?_ ?_
       rotate_left
       ·
        show Act.put _ (some 21) _ = _
        simp only [Act.put, List.setIfInBounds_toArray, List.set_cons_zero, List.set_cons_succ, i64_w, i32_w]
        rfl
       refine one_ (i := 5) (N := some 22) #[true, true, true, true, true, true, false, false] rfl rfl (one_of HT_.out (by kernel_rfl)) (by decide) (fun K hK => ?_)
       refine Kd.S_append_step (Kd.slice 3 (Kd.int .i64)) (w0 := w) w.heap.size (by rfl) (.tmp 18) (.tmp 21) 39 24 (.slice none 0 0) 24 rfl Tryz.underlying39 info24 rfl (by decide) (by omega) u184001 x184001_1 t185 [.slice Ao22 t185.length co22] (fun k_ => some k_ ≠ (.slice Ao8 t180.length co8 : Value).ownBlock) (fun k_ => some k_ = (.slice Ao22 t185.length co22 : Value).ownBlock) rfl rfl ?aP (fun k_ hk_ => ((Kd.R_mono (ok' := fun k_ => ((fun k_ => some k_ ≠ (.slice Ao8 t180.length co8 : Value).ownBlock)) k_ ∧ some k_ ≠ (u184001 : Value).ownBlock) (Kd.R_apart' (HO187.out) (Kd.S_typed HO_184001.out) (by decide)) (fun k_ hk => ⟨hk.1.2, hk.2⟩))).1 k_ hk_.symm) ?aF ?aO ?aB ?aS ?aL ?_
       (case aP => exact Kd.M_row (Kd.R_mono (Kd.R_tight rfl (Kd.R_mono (ok' := fun k_ => ((fun k_ => some k_ ≠ (.slice Ao8 t180.length co8 : Value).ownBlock)) k_ ∧ some k_ ≠ (u184001 : Value).ownBlock) (Kd.R_apart' (HO187.out) (Kd.S_typed HO_184001.out) (by decide)) (fun k_ hk => ⟨hk.1.2, hk.2⟩))) (fun _ h_ => h_)))
       (case aB => exact (by repeat (first | (with_reducible first | exact HB.out | apply below_alloc | apply pw_below_drewN | apply below_drew1 | refine below_set ?_ GE178.out | refine below_set ?_ GE179.out | refine below_set ?_ GE183.out) | exact HB.out)))
       (case aF => exact (fun k_ hk => Kd.fresh' (Kd.R_lt (by (with_reducible repeat (first | apply Kd.R_alloc | apply Kd.R_drewN | apply Kd.R_drew)); exact HO_184000.out)) k_ hk))
       (case aO => exact (by (with_reducible repeat (first | apply Kd.S_alloc | apply Kd.S_drewN | apply Kd.S_drew)); exact Kd.S_mono HO_184001.out (fun k_ hk => ⟨hk.1, fun e_ => hk.2 e_⟩)))
       (case aS => exact (below_size (by repeat (first | (with_reducible first | exact HB.out | apply below_alloc | apply pw_below_drewN | apply below_drew1 | refine below_set ?_ GE178.out | refine below_set ?_ GE179.out | refine below_set ?_ GE183.out) | exact HB.out))))
       (case aL => have := LMc18.out; omega)
       intro v189 w21 ho hb hg hat
       rw [← Ny188.out] at ho
       have n0_ := Aside0.mk (Kd.R_over' (by (with_reducible repeat (first | apply Kd.R_alloc | apply Kd.R_drewN | apply Kd.R_drew)); exact HO_184000.out) (Kd.S_typed (by (with_reducible repeat (first | apply Kd.S_alloc | apply Kd.S_drewN | apply Kd.S_drew)); exact HO_184001.out)) (by decide) hg)
       have n1_ := Aside0.mk (blk_grown (g := gb178) (o := .cells #[.slice A0_0 l0_0.length c0_0, .slice (some ad184) l0_1.length c0_1] 79 (0, 0)) (by (with_reducible repeat (first | refine blk_drewN ?_ _ | refine blk_drew ?_ | refine blk_alloc ?_ _)); exact BK178.out) hg (Kd.S_ne HO_184001.out BK178.out (by decide)))
       have n2_ := Aside0.mk (blk_grown (g := gb179) (o := .cells #[.slice none 0 0, .slice none 0 0] 79 (0, 0)) (by (with_reducible repeat (first | refine blk_drewN ?_ _ | refine blk_drew ?_ | refine blk_alloc ?_ _)); exact BK179.out) hg (Kd.S_ne HO_184001.out BK179.out (by decide)))
       have n3_ := Aside0.mk (blk_grown (g := gb183) (o := .cells #[.slice Ao8 t180.length co8, u184001] 79 (0, 0)) (by (with_reducible repeat (first | refine blk_drewN ?_ _ | refine blk_drew ?_ | refine blk_alloc ?_ _)); exact BK183.out) hg (Kd.S_ne HO_184001.out BK183.out (by decide)))
       have n4_ := Aside0.mk (hb)
       have n5_ := Aside0.mk (ho)
       clear HO_184000
       clear BK178
       clear BK179
       clear BK183
       clear HB
       clear HO_184001
       clear HO187
       have HO_184000 := n0_
       have BK178 := n1_
       have BK179 := n2_
       have BK183 := n3_
       have HB := n4_
       have HO190 := n5_
       clear n0_ n1_ n2_ n3_ n4_ n5_
       clear ho hb hg hat
       obtain ⟨Ao23, co23, eo23⟩ := Kd.S_slice HO190.out
       (first | subst eo23 | (injection eo23 with f1_ f2_ f3_; have f4_ := f1_.symm; have f5_ := f3_.symm; clear f1_ f2_ f3_; subst f4_; subst f5_))
       refine hK.out _ _ ⟨(blk_cell BK183.out 0).trans rfl, (blk_cell BK183.out 1).trans rfl⟩ (fun hHeld => ?_)
       clear hK K
       refine norm_ (a' := ?_) ?_ ?_
       rotate_left
       ·
        show Act.put _ (some 22) _ = _
        simp only [Act.put, List.setIfInBounds_toArray, List.set_cons_zero, List.set_cons_succ, i64_w, i32_w]
        rfl
       refine pure_ (i := 6) (N := some 23) (v := ?_) (a' := ?_) #[true, true, true, true, true, true, true, false] rfl rfl (any_of HT_.out (by kernel_rfl)) (fun _ _ _ h => h) (Or.inl ⟨by rfl, ?_⟩) ?_ ?_
       rotate_left
       ·
        intro w'
        go_simp
        with_reducible rfl
       rotate_left
       ·
        simp only [Act.put, List.setIfInBounds_toArray, List.set_cons_zero, List.set_cons_succ, i64_w, i32_w]
        rfl
       refine last_ (i := 7) (N := none) #[true, true, true, true, true, true, true, true] rfl rfl (one_of HT_.out (by kernel_rfl)) (by decide) (fun K hK => ?_)
       have hs24 : w21.cell? ⟨gb183, 1, none⟩ = some (u184001) := (blk_cell BK183.out 1).trans rfl
       have hfs24 := blk_frozen BK183.out 1
       have hns24_0 := NB178_183.out
       have hns24_1 := NB179_183.out
       have hms24_0 := NB183_178.out
       have hms24_1 := NB183_179.out
       refine skip_ (w1 := ?_) (by rfl) rfl ?_ ?_
       rotate_left
       ·
        go_simp
        rfl
       refine hK.out _ _ ?_
       clear hK K
       refine done_ (done_of HT_.out (by kernel_rfl)) ?_
       try go_wp2
       go_roundg k1
       case measure => have := HK1.out; omega
       case rel => exact ⟨(wrap64 (x13_1 + 1)), (y188), (.slice Ao23 y188.length co23), (by first | rfl | (simp; done) | (simp [*]; done)), H', ⟨by have := HK1.out; omega⟩, ⟨by (with_reducible repeat (first | apply Kd.R_alloc | apply Kd.R_drewN | apply Kd.R_drew)); exact Kd.R_mono (Kd.R_far (p := ⟨gb183, 1, none⟩) (Kd.R_types HO_184000.out BK183.out (by decide)) (fun _ hk => hk.2) (.slice Ao23 y188.length co23)) (fun _ hk => trivial)⟩, ⟨by (with_reducible repeat (first | apply Kd.S_alloc | apply Kd.S_drewN | apply Kd.S_drew)); exact Kd.S_mono (Kd.S_far (p := ⟨gb183, 1, none⟩) (Kd.S_types HO190.out BK183.out (by decide)) (fun _ hk => hk.2) (.slice Ao23 y188.length co23)) (fun _ hk => hk.1)⟩, ⟨by (with_reducible repeat (first | refine blk_drewN ?_ _ | refine blk_drew ?_ | refine blk_alloc ?_ _)); refine blk_far ?_ NB178_183.out _; (with_reducible repeat (first | refine blk_drewN ?_ _ | refine blk_drew ?_ | refine blk_alloc ?_ _)); exact BK178.out⟩, ⟨by (with_reducible repeat (first | refine blk_drewN ?_ _ | refine blk_drew ?_ | refine blk_alloc ?_ _)); refine blk_far ?_ NB179_183.out _; (with_reducible repeat (first | refine blk_drewN ?_ _ | refine blk_drew ?_ | refine blk_alloc ?_ _)); exact BK179.out⟩, ⟨by (with_reducible repeat (first | refine blk_drewN ?_ _ | refine blk_drew ?_ | refine blk_alloc ?_ _)); refine blk_put (cs := #[.slice Ao8 t180.length co8, u184001]) ?_ 1 _ rfl; (with_reducible repeat (first | refine blk_drewN ?_ _ | refine blk_drew ?_ | refine blk_alloc ?_ _)); exact BK183.out⟩, ⟨by repeat (first | (with_reducible first | exact HB.out | apply below_alloc | apply pw_below_drewN | apply below_drew1 | refine below_set ?_ GE178.out | refine below_set ?_ GE179.out | refine below_set ?_ GE183.out) | exact HB.out)⟩⟩
      ·
       rw [if_neg c18] at H
       exact absurd H (by simp)
     ·
      rw [if_neg c16] at H
      exact absurd H (by simp)
    ·
     rw [if_neg c15] at H
     exact absurd H (by simp)
   ·
    rw [if_neg c14] at H
    have c14b0 : decide (x13_1 < (l0_1.length : Int)) = false := decide_eq_false c14
    clear c14
    simp only [Option.some.injEq, Prod.mk.injEq] at H
    obtain ⟨rfl, rfl⟩ := H
    have hnb25 := NB183_178.out
    have hnc25 := NB178_183.out
    have hnb26 := NB183_179.out
    have hnc26 := NB179_183.out
    have hcz27_0 : wr.cell? ⟨gb183, 0, none⟩ = some (.slice Ao8 t180.length co8) := (blk_cell BK183.out 0).trans rfl
    have hcz27_1 : wr.cell? ⟨gb183, 1, none⟩ = some (u184001) := (blk_cell BK183.out 1).trans rfl
    have hfz27_0 := blk_frozen BK183.out 0
    have hfz27_1 := blk_frozen BK183.out 1
    have hnb28 := NB179_178.out
    have hnc28 := NB178_179.out
    have hcz29_0 : wr.cell? ⟨gb179, 0, none⟩ = some (.slice none 0 0) := (blk_cell BK179.out 0).trans rfl
    have hcz29_1 : wr.cell? ⟨gb179, 1, none⟩ = some (.slice none 0 0) := (blk_cell BK179.out 1).trans rfl
    have hfz29_0 := blk_frozen BK179.out 0
    have hfz29_1 := blk_frozen BK179.out 1
    obtain ⟨Ao30, co30, eo30⟩ := Kd.S_slice HO_184001.out
    subst eo30
    go_wp2
    refine bodyPost_ret (results_cell_row rfl _ _ gb179 79 #[.slice Ao8 t180.length co8, .slice Ao30 x184001_1.length co30] (0, 0) _ rfl (by (with_reducible repeat (first | refine blk_drewN ?_ _ | refine blk_drew ?_ | refine blk_alloc ?_ _)); refine blk_put (cs := #[.slice Ao8 t180.length co8, .slice none 0 0]) ?_ 1 _ rfl; (with_reducible repeat (first | refine blk_drewN ?_ _ | refine blk_drew ?_ | refine blk_alloc ?_ _)); refine blk_put (cs := #[.slice none 0 0, .slice none 0 0]) ?_ 0 _ rfl; (with_reducible repeat (first | refine blk_drewN ?_ _ | refine blk_drew ?_ | refine blk_alloc ?_ _)); exact BK179.out) Tryz.underlying79 rfl (by kernel_rfl)) rfl ?_
    exact ⟨_, _, by first | rfl | (simp [errW_none, errW_some] <;> rfl) | (simp [*, errW_none, errW_some] <;> rfl), by (with_reducible repeat (first | apply Kd.R_alloc | apply Kd.R_drewN | apply Kd.R_drew)); exact Kd.R_mono (Kd.R_far (p := ⟨gb179, 1, none⟩) (Kd.R_far (p := ⟨gb179, 0, none⟩) (Kd.R_types HO_184000.out BK179.out (by decide)) (fun _ hk => hk.2) (.slice Ao8 t180.length co8)) (fun _ hk => hk.2) (.slice Ao30 x184001_1.length co30)) (fun _ hk => trivial), by (with_reducible repeat (first | apply Kd.S_alloc | apply Kd.S_drewN | apply Kd.S_drew)); exact Kd.S_mono (Kd.S_far (p := ⟨gb179, 1, none⟩) (Kd.S_far (p := ⟨gb179, 0, none⟩) (Kd.S_types HO_184001.out BK179.out (by decide)) (fun _ hk => hk.2) (.slice Ao8 t180.length co8)) (fun _ hk => hk.2) (.slice Ao30 x184001_1.length co30)) (fun _ hk => hk.1), by repeat (first | (with_reducible first | exact HB.out | apply below_alloc | apply pw_below_drewN | apply below_drew1 | refine below_set ?_ GE178.out | refine below_set ?_ GE179.out | refine below_set ?_ GE183.out) | exact HB.out)⟩
def impl_grow.RowsAt (w : World) (B gR : Nat) (T : Nat → Prop) (rows : List (List Int)) : Prop :=
  T gR ∧ B ≤ gR ∧ ∃ vs : List Value, vs.length = rows.length ∧ w.heap[gR]? = some (.cells vs.toArray 24 (0, 0)) ∧
    (∀ (i : Nat) (v : Value) (xs : List Int), vs[i]? = some v → rows[i]? = some xs → w.ownsRow B 3 1 v xs.length (nums .i64 xs) ∧ ∀ k, v.ownBlock = some k → T k ∧ k ≠ gR) ∧
    ∀ (i j : Nat) (v u : Value), i ≠ j → vs[i]? = some v → vs[j]? = some u → ∀ k, v.ownBlock = some k → u.ownBlock ≠ some k
theorem impl_grow.RowsAt.lt {w : World} {B gR : Nat} {T : Nat → Prop} {rows : List (List Int)} (h : impl_grow.RowsAt w B gR T rows) : gR < w.heap.size := by
  obtain ⟨_, _, vs, _, hh, _⟩ := h
  exact blk_lt hh
theorem impl_grow.RowsAt.keep {w w' : World} {B gR : Nat} {T T' : Nat → Prop} {rows : List (List Int)} (h : impl_grow.RowsAt w B gR T rows) (hm : ∀ k, T k → k < w.heap.size → w'.heap[k]? = w.heap[k]?) (hT : ∀ k, T k → k < w.heap.size → T' k) : impl_grow.RowsAt w' B gR T' rows := by
  have hlt := h.lt
  obtain ⟨h1, h2, vs, hl, hh, hr, hd⟩ := h
  refine ⟨hT _ h1 hlt, h2, vs, hl, (hm _ h1 hlt).trans hh, fun i v xs hv hx => ?_, hd⟩
  obtain ⟨ho, hb⟩ := hr i v xs hv hx
  exact ⟨own_move ho (fun k hk => hm k (hb k hk).1 (own_lt ho k hk)), fun k hk => ⟨hT k (hb k hk).1 (own_lt ho k hk), (hb k hk).2⟩⟩
theorem impl_grow.RowsAt.kept {w w' : World} {B gR : Nat} {T S : Nat → Prop} {rows : List (List Int)} (h : impl_grow.RowsAt w B gR T rows) (hk : Kept w w' S) (hne : ∀ k, T k → ¬ S k) : impl_grow.RowsAt w' B gR T rows :=
  h.keep (fun k hT hlt => hk.2 k hlt (hne k hT)) (fun _ hk _ => hk)
theorem impl_grow.RowsAt.row {w : World} {B gR : Nat} {T : Nat → Prop} {rows : List (List Int)} (h : impl_grow.RowsAt w B gR T rows) (i : Nat) (hi : i < rows.length) :
    ∃ A c, w.cell? ⟨gR, i, none⟩ = some (.slice A (rows.getD i []).length c) ∧ w.ownsRow B 3 1 (.slice A (rows.getD i []).length c) (rows.getD i []).length (nums .i64 (rows.getD i [])) ∧ ∀ k, (Value.slice A (rows.getD i []).length c).ownBlock = some k → T k ∧ k ≠ gR := by
  obtain ⟨h1, h2, vs, hl, hh, hr, hd⟩ := h
  have hiv : i < vs.length := by omega
  have hx : rows[i]? = some (rows.getD i []) := by simp [List.getD, hi]
  obtain ⟨ho, hb⟩ := hr i vs[i] _ (List.getElem?_eq_getElem hiv) hx
  have hc : w.cell? ⟨gR, i, none⟩ = some vs[i] := by rw [blk_cell hh i]; simp [hiv]
  rcases ho.2 with ⟨e, hn⟩ | ⟨g, cap, cur, e, r⟩
  · rw [e] at ho hb hc
    exact ⟨none, 0, by rw [hc, hn], by rw [hn] at ho ⊢; exact ho, by simp [Value.ownBlock]⟩
  · rw [e] at ho hb hc
    exact ⟨some ⟨g, 0, none⟩, cap, hc, ho, hb⟩
theorem impl_grow.own_reads {w : World} {B n c : Nat} {A : Option Addr} {e : Nat} {xs : List Int} (h : w.ownsRow B e 1 (.slice A n c) n (nums .i64 xs)) (hn : xs.length = n) : n ≤ c ∧ Kd.C (Kd.int .i64) w A n xs := by
  subst hn
  have hR : Kd.R (Kd.int .i64) e w B (fun _ => True) (.slice A xs.length c) xs := Kd.R_of_own h (fun _ _ => trivial)
  obtain ⟨_, h2, h3⟩ := Kd.R_reads' hR
  exact ⟨h2, h3⟩
theorem impl_grow.RowsAt.reads {w : World} {B gR : Nat} {T : Nat → Prop} {rows : List (List Int)} (h : impl_grow.RowsAt w B gR T rows) (hm : rows.length ≤ 9223372036854775807) : Kd.C (Kd.slice 3 (Kd.int .i64)) w (some ⟨gR, 0, none⟩) rows.length rows := by
  refine ⟨rfl, hm, fun _ => ⟨_, rfl, fun j p hj => ?_⟩⟩
  have hjl : j < rows.length := (List.getElem?_eq_some_iff.1 hj).1
  obtain ⟨A, c, hc, ho, _⟩ := h.row j hjl
  have hp : rows.getD j [] = p := by simp [List.getD, hj]
  rw [hp] at hc ho
  obtain ⟨hlc, hC⟩ := impl_grow.own_reads ho rfl
  refine ⟨[.slice A p.length c], rfl, ⟨A, c, rfl, hlc, hC⟩, fun i u hu => ?_⟩
  match i, hu with
  | 0, hu =>
    obtain rfl : _ = u := by simpa using hu
    have e : (⟨gR, 0, none⟩ : Addr).add (j * 1 + 0) = ⟨gR, j, none⟩ := by
      unfold Addr.add
      split <;> simp_all
    show w.cell? ((⟨gR, 0, none⟩ : Addr).add (j * 1 + 0)) = _
    rw [e]
    exact hc
theorem impl_grow.RowsAt.put {w w1 : World} {B gR : Nat} {T : Nat → Prop} {rows : List (List Int)} (h : impl_grow.RowsAt w B gR T rows) (hlt : ∀ k, T k → k < w.heap.size) (i : Nat) (hi : i < rows.length) {v v1 : Value} {ys : List Int}
    (hc : w.cell? ⟨gR, i, none⟩ = some v) (hm : ∀ k, T k → some k ≠ v.ownBlock → w1.heap[k]? = w.heap[k]?) (ho : w1.ownsRow B 3 1 v1 ys.length (nums .i64 ys))
    (hat : v1.ownBlock = v.ownBlock ∨ ∃ b, v1.ownBlock = some b ∧ w.heap.size ≤ b) :
    impl_grow.RowsAt (w1.setCell ⟨gR, i, none⟩ v1) B gR (fun k => T k ∨ w.heap.size ≤ k) (rows.set i ys) := by
  have hgR := h.lt
  obtain ⟨h1, h2, vs, hl, hh, hr, hd⟩ := h
  have hiv : i < vs.length := by omega
  have hv : vs[i]? = some v := by rw [blk_cell hh i] at hc; simpa using hc
  have hx : rows[i]? = some rows[i] := List.getElem?_eq_getElem hi
  obtain ⟨ho0, hb0⟩ := hr i v _ hv hx
  have hgv : some gR ≠ v.ownBlock := fun e => (hb0 gR e.symm).2 rfl
  have hh1 : w1.heap[gR]? = some (.cells vs.toArray 24 (0, 0)) := (hm gR h1 hgv).trans hh
  have hb1 : ∀ k, v1.ownBlock = some k → (T k ∨ w.heap.size ≤ k) ∧ k ≠ gR := by
    intro k hk
    rcases hat with e | ⟨b, e, hb⟩
    · exact ⟨.inl (hb0 k (e ▸ hk)).1, (hb0 k (e ▸ hk)).2⟩
    · obtain rfl : b = k := by rw [e] at hk; exact Option.some.inj hk
      exact ⟨.inr hb, by omega⟩
  refine ⟨.inl h1, h2, vs.set i v1, by simp [hl], ?_, ?_, ?_⟩
  · have := blk_set hh1 i v1
    rw [this]
    simp
  · intro j u xs hu hxs
    by_cases hij : i = j
    · subst hij
      rw [List.getElem?_set_self hiv] at hu
      rw [List.getElem?_set_self hi] at hxs
      obtain rfl := Option.some.inj hu
      obtain rfl := Option.some.inj hxs
      exact ⟨ownsRow_setCell_other ho (fun e => (hb1 _ e).2 rfl) _, hb1⟩
    · rw [List.getElem?_set_ne hij] at hu hxs
      obtain ⟨ho', hb'⟩ := hr j u xs hu hxs
      have hne : ∀ k, u.ownBlock = some k → some k ≠ v.ownBlock := fun k hk e => hd i j v u hij hv hu k e.symm hk
      exact ⟨ownsRow_setCell_other (own_move ho' (fun k hk => hm k (hb' k hk).1 (hne k hk))) (fun e => (hb' _ e).2 rfl) _, fun k hk => ⟨.inl (hb' k hk).1, (hb' k hk).2⟩⟩
  · intro a b u1 u2 hab ha hb k hk
    have key : ∀ c u, c ≠ i → vs[c]? = some u → ∀ k, u.ownBlock = some k → v1.ownBlock ≠ some k := by
      intro c u hc hu k hk e
      rcases hat with e2 | ⟨b, e2, hb⟩
      · exact hd c i u v hc hu hv k hk (e2 ▸ e)
      · obtain rfl : b = k := by rw [e2] at e; exact Option.some.inj e
        have hcl : c < rows.length := by have := (List.getElem?_eq_some_iff.1 hu).1; omega
        have := hlt _ ((hr c u _ hu (List.getElem?_eq_getElem hcl)).2 _ hk).1
        omega
    by_cases hia : i = a
    · subst hia
      rw [List.getElem?_set_self hiv] at ha
      obtain rfl := Option.some.inj ha
      rw [List.getElem?_set_ne hab] at hb
      exact fun e => key b u2 (Ne.symm hab) hb k e hk
    · rw [List.getElem?_set_ne hia] at ha
      by_cases hib : i = b
      · subst hib
        rw [List.getElem?_set_self hiv] at hb
        obtain rfl := Option.some.inj hb
        exact key a u1 (Ne.symm hia) ha k hk
      · rw [List.getElem?_set_ne hib] at hb
        exact hd a b u1 u2 hab ha hb k hk
def impl_grow.Mg (go : Nat) (T O : Nat → Prop) (k : Nat) : Prop := T k ∨ O k ∨ k = go
structure impl_grow.St (w : World) (B go gR : Nat) (T O : Nat → Prop) (rows : List (List Int)) (ts : List S79) : Prop where
  rowsAt : impl_grow.RowsAt w B gR T rows
  out : ∃ v, w.heap[go]? = some (.cells #[v] 103 (0, 0)) ∧ Kd.S k79 79 w B O v ts
  dis : ∀ k, T k → ¬ O k
  goT : ¬ T go
  goO : ¬ O go
  hB : B ≤ go
  lt : ∀ k, T k ∨ O k → k < w.heap.size
  made : ∀ v, w.heap[go]? = some (.cells #[v] 103 (0, 0)) → v.ownBlock ≠ none
def impl_grow.Done (w w' : World) (B go gR : Nat) (T O : Nat → Prop) (rows : List (List Int)) (ts : List S79) : Prop :=
  ∃ T' O' : Nat → Prop, impl_grow.St w' B go gR T' O' rows ts ∧ Kept w w' (impl_grow.Mg go T O) ∧ (∀ k, impl_grow.Mg go T' O' k → impl_grow.Mg go T O k ∨ w.heap.size ≤ k) ∧ Below B w w'
theorem impl_grow.St.mlt {w : World} {B go gR : Nat} {T O : Nat → Prop} {rows : List (List Int)} {ts : List S79} (h : impl_grow.St w B go gR T O rows ts) : ∀ k, impl_grow.Mg go T O k → k < w.heap.size := by
  rintro k (hk | hk | rfl)
  · exact h.lt k (.inl hk)
  · exact h.lt k (.inr hk)
  · obtain ⟨v, hv, _⟩ := h.out; exact blk_lt hv
theorem impl_grow.St.kept {w w' : World} {B go gR : Nat} {T O S : Nat → Prop} {rows : List (List Int)} {ts : List S79} (h : impl_grow.St w B go gR T O rows ts) (hk : Kept w w' S) (hne : ∀ k, impl_grow.Mg go T O k → ¬ S k) : impl_grow.St w' B go gR T O rows ts where
  rowsAt := h.rowsAt.kept hk (fun k hT => hne k (.inl hT))
  out := by
    obtain ⟨v, hv, hS⟩ := h.out
    exact ⟨v, blk_kept hv hk (hne go (.inr (.inr rfl))), Kd.S_kept hS hk (fun k hO => hne k (.inr (.inl hO)))⟩
  dis := h.dis
  goT := h.goT
  goO := h.goO
  hB := h.hB
  lt := fun k hk' => Nat.lt_of_lt_of_le (h.lt k hk') hk.1
  made := fun v hv => by
    obtain ⟨u, hu, _⟩ := h.out
    have h2 := blk_kept hu hk (hne go (.inr (.inr rfl)))
    rw [h2] at hv
    obtain rfl : u = v := by simpa using hv
    exact h.made u hu
theorem impl_grow.St.below {w w' : World} {B go gR : Nat} {T O : Nat → Prop} {rows : List (List Int)} {ts : List S79} (h : impl_grow.St w B go gR T O rows ts) (hb : Below w.heap.size w w') : impl_grow.St w' B go gR T O rows ts :=
  h.kept (Kept.of_below hb (fun _ => False)) (fun _ _ h => h)
theorem impl_grow.Done.refl {w : World} {B go gR : Nat} {T O : Nat → Prop} {rows : List (List Int)} {ts : List S79} (h : impl_grow.St w B go gR T O rows ts) : impl_grow.Done w w B go gR T O rows ts :=
  ⟨T, O, h, Kept.refl _ _, fun _ hk => .inl hk, Below.refl _ _⟩
theorem impl_grow.Done.from_ {w w1 w2 : World} {B go gR : Nat} {T O T1 O1 : Nat → Prop} {rows : List (List Int)} {ts : List S79} (hk : Kept w w1 (impl_grow.Mg go T O)) (hM : ∀ k, impl_grow.Mg go T1 O1 k → impl_grow.Mg go T O k ∨ w.heap.size ≤ k) (hb : Below B w w1)
    (h : impl_grow.Done w1 w2 B go gR T1 O1 rows ts) : impl_grow.Done w w2 B go gR T O rows ts := by
  obtain ⟨T2, O2, hst, hk2, hM2, hb2⟩ := h
  refine ⟨T2, O2, hst, hk.then_ hk2 hM, fun k hk3 => ?_, hb.trans hb2⟩
  rcases hM2 k hk3 with h | h
  · exact hM k h
  · exact .inr (Nat.le_trans hk.1 h)
theorem impl_grow.St.put {w w1 : World} {B go gR : Nat} {T O : Nat → Prop} {rows : List (List Int)} {ts : List S79} (h : impl_grow.St w B go gR T O rows ts) (i : Nat) (hi : i < rows.length) {v v1 : Value} {ys : List Int}
    (hc : w.cell? ⟨gR, i, none⟩ = some v) (hT : ∀ k, v.ownBlock = some k → T k) (hg : w.grownBy w1 v.ownBlock) (hb : Below B w w1) (ho : w1.ownsRow B 3 1 v1 ys.length (nums .i64 ys))
    (hat : v1.ownBlock = v.ownBlock ∨ ∃ b, v1.ownBlock = some b ∧ w.heap.size ≤ b) :
    ∃ T', impl_grow.St (w1.setCell ⟨gR, i, none⟩ v1) B go gR T' O (rows.set i ys) ts ∧ Kept w (w1.setCell ⟨gR, i, none⟩ v1) (impl_grow.Mg go T O) ∧ (∀ k, impl_grow.Mg go T' O k → impl_grow.Mg go T O k ∨ w.heap.size ≤ k) ∧ Below B w (w1.setCell ⟨gR, i, none⟩ v1) := by
  have hr := h.rowsAt.put (fun k hk => h.lt k (.inl hk)) i hi hc (fun k hk hne => hg.block k (h.lt k (.inl hk)) hne) ho hat
  have hTg := h.rowsAt.1
  have hk1 : Kept w w1 (impl_grow.Mg go T O) := Kept.of_grown hg (Kept.refl _ _) (fun k hk => .inl (.inl (hT k hk)))
  have hk2 : Kept w (w1.setCell ⟨gR, i, none⟩ v1) (impl_grow.Mg go T O) := hk1.setCell (.inl (.inl hTg)) _
  have hkT : Kept w (w1.setCell ⟨gR, i, none⟩ v1) T := (Kept.of_grown hg (Kept.refl _ T) (fun k hk => .inl (hT k hk))).setCell (.inl hTg) _
  refine ⟨fun k => (T k ∨ w.heap.size ≤ k) ∧ k < (w1.setCell ⟨gR, i, none⟩ v1).heap.size, ⟨hr.keep (fun _ _ _ => rfl) (fun k hk hlt => ⟨hk, hlt⟩), ?_, ?_, ?_, h.goO, h.hB, ?_, ?_⟩, hk2, ?_, hb.setCell h.rowsAt.2.1 _⟩
  · obtain ⟨u, hu, hS⟩ := h.out
    exact ⟨u, blk_kept hu hkT h.goT, Kd.S_kept hS hkT (fun k hO hT' => h.dis k hT' hO)⟩
  · rintro k ⟨hk | hk, _⟩ hO
    · exact h.dis k hk hO
    · have := h.lt k (.inr hO); omega
  · rintro ⟨hk | hk, _⟩
    · exact h.goT hk
    · have := h.mlt go (.inr (.inr rfl)); omega
  · rintro k (hk | hk)
    · exact hk.2
    · exact Nat.lt_of_lt_of_le (h.lt k (.inr hk)) hk2.1
  · intro u hu
    obtain ⟨v, hv, _⟩ := h.out
    have h2 := blk_kept hv hkT h.goT
    rw [h2] at hu
    obtain rfl : v = u := by simpa using hu
    exact h.made v hv
  · rintro k (hk | hk | hk)
    · rcases hk.1 with hk | hk
      · exact .inl (.inl hk)
      · exact .inr hk
    · exact .inl (.inr (.inl hk))
    · exact .inl (.inr (.inr hk))
def impl_grow.Reads (w : World) (S : Nat → Prop) (A : Option Addr) (l : List Int) : Prop := ∀ W, Kept w W S → Kd.C (Kd.int .i64) W A l.length l
theorem impl_grow.Reads.to {w w' : World} {S S' : Nat → Prop} {A : Option Addr} {l : List Int} (h : impl_grow.Reads w S A l) (hk : Kept w w' S) (hs : ∀ k, S' k → S k ∨ w.heap.size ≤ k) : impl_grow.Reads w' S' A l := fun W hW => h W (hk.then_ hW hs)
def impl_grow.total (ws : List Int) : Nat := (ws.map Int.toNat).sum
def impl_grow.Ok (B go gR : Nat) (outer inner : List Int) (Ao Ai At : Option Addr) (co ci ct : Nat) (ws : List Int) : Prop :=
  ∀ (k : Int) (rows : List (List Int)) (ts : List S79) (T O : Nat → Prop) (w : World) (Aw : Option Addr) (cw : Nat), impl_grow.St w B go gR T O rows ts → rows.length = outer.length → (∀ r ∈ rows, r.length + impl_grow.total ws ≤ 1000) → 0 ≤ k → k + (ws.length : Int) ≤ 1000 →
    ts.length + (Gr.growL outer inner ws rows k).length < 2000000000 →
    impl_grow.Reads w (impl_grow.Mg go T O) Ao outer → impl_grow.Reads w (impl_grow.Mg go T O) Ai inner → impl_grow.Reads w (impl_grow.Mg go T O) At inner → impl_grow.Reads w (impl_grow.Mg go T O) Aw ws → ws.length ≤ cw →
    Calls Tryz.prog 187 #[.agg #[.slice Ao outer.length co, .slice Ai inner.length ci], .agg #[.slice At inner.length ct, .slice (some ⟨gR, 0, none⟩) outer.length outer.length], .int .i64 k, .slice Aw ws.length cw, .func (.func 188) #[] #[.pointer (some ⟨go, 0, none⟩)]] w
      fun e w' => e = .returned (.tuple #[]) ∧ impl_grow.Done w w' B go gR T O rows (ts ++ (Gr.growL outer inner ws rows k).map (fun r => ⟨inner, r⟩))
structure impl_grow.Boxes (w : World) (S : Nat → Prop) (go gR : Nat) (outer inner : List Int) (Ao Ai At : Option Addr) (co ci ct : Nat) (k : Int) (Aw : Option Addr) (nw cw : Nat) (bs bt bk bw be bp : Nat) : Prop where
  hs : w.heap[bs]? = some (.cells #[.slice Ao outer.length co, .slice Ai inner.length ci] 74 (0, 0))
  ht : w.heap[bt]? = some (.cells #[.slice At inner.length ct, .slice (some ⟨gR, 0, none⟩) outer.length outer.length] 79 (0, 0))
  hk : w.heap[bk]? = some (.cells #[.int .i64 k] 3 (0, 0))
  hw : w.heap[bw]? = some (.cells #[.slice Aw nw cw] 24 (0, 0))
  he : w.heap[be]? = some (.cells #[.func (.func 188) #[] #[.pointer (some ⟨go, 0, none⟩)]] 148 (0, 0))
  hp : w.heap[bp]? = some (.cells #[.func (.func 206) #[] #[.pointer (some ⟨bs, 0, none⟩), .pointer (some ⟨bt, 0, none⟩), .pointer (some ⟨bk, 0, none⟩), .pointer (some ⟨bw, 0, none⟩), .pointer (some ⟨be, 0, none⟩), .pointer (some ⟨bp, 0, none⟩)]] 169 (0, 0))
  hns : ¬ S bs
  hnt : ¬ S bt
  hnk : ¬ S bk
  hnw : ¬ S bw
  hne : ¬ S be
  hnp : ¬ S bp
theorem impl_grow.Boxes.to {w w' : World} {S S' : Nat → Prop} {go gR : Nat} {outer inner : List Int} {Ao Ai At : Option Addr} {co ci ct : Nat} {k : Int} {Aw : Option Addr} {nw cw bs bt bk bw be bp : Nat} (h : impl_grow.Boxes w S go gR outer inner Ao Ai At co ci ct k Aw nw cw bs bt bk bw be bp)
    (hk : Kept w w' S) (hs : ∀ k, S' k → S k ∨ w.heap.size ≤ k) : impl_grow.Boxes w' S' go gR outer inner Ao Ai At co ci ct k Aw nw cw bs bt bk bw be bp := by
  have key : ∀ {b : Nat} {o : Obj}, w.heap[b]? = some o → ¬ S b → ¬ S' b := fun hb hn h' => by
    rcases hs _ h' with h' | h'
    · exact hn h'
    · have := blk_lt hb; omega
  exact ⟨blk_kept h.hs hk h.hns, blk_kept h.ht hk h.hnt, blk_kept h.hk hk h.hnk, blk_kept h.hw hk h.hnw, blk_kept h.he hk h.hne, blk_kept h.hp hk h.hnp, key h.hs h.hns, key h.ht h.hnt, key h.hk h.hnk, key h.hw h.hnw, key h.he h.hne, key h.hp h.hnp⟩
set_option maxHeartbeats 2000000 in
set_option maxRecDepth 100000 in
theorem impl_tableaux_1.calls (B N0 go : Nat) (O : Nat → Prop) (v v0 v1 : Value) (ts : List S79) (x : S79) (w : World)
    (hcell : w.heap[go]? = some (.cells #[v] 103 (0, 0))) (hgo : go < N0) (hBg : B ≤ go) (hN : N0 ≤ w.heap.size) (hOg : ¬ O go)
    (hO : Kd.S k79 79 w B (fun k => O k ∧ k < N0) v ts) (hl : ts.length < 2000000000)
    (h0 : Kd.R (Kd.int .i64) 3 w N0 (fun _ => True) v0 x.f0) (h1 : Kd.R (Kd.slice 3 (Kd.int .i64)) 24 w N0 (fun _ => True) v1 x.f1) :
    Calls Tryz.prog 188 #[.agg #[v0, v1], .pointer (some ⟨go, 0, none⟩)] w fun e w' => e = .returned (.tuple #[]) ∧ ∃ v', w'.heap[go]? = some (.cells #[v'] 103 (0, 0)) ∧ Kd.S k79 79 w' B (fun k => (O k ∨ N0 ≤ k) ∧ k ≠ go) v' (ts ++ [x]) ∧ Kept w w' (fun k => O k ∨ k = go) ∧ Below B w w' := by
  have hinfo : (Tryz.prog.info? 79).map (fun i => (i.zero, i.size, i.bytes)) = some (some (.agg #[.slice none 0 0, .slice none 0 0]), 2, 48) := by kernel_rfl
  have HI := Aside0.mk hinfo
  clear hinfo
  have hu56 := Tryz.underlying79
  have HO := Aside0.mk hO
  have HC := Aside0.mk hcell
  have H0 := Aside0.mk h0
  have H1 := Aside0.mk h1
  have HL := Aside0.mk hl
  have HN := Aside0.mk (And.intro hgo (And.intro hBg (And.intro hN hOg)))
  clear hO hcell h0 h1 hl hgo hBg hN hOg
  go_enter Tryz.func188, Tryz.ntmps188
  go_wp2_with (first
    | ((with_reducible refine gate_dst (N := 2) rfl ?_); refine box_event ?hg (N := 2) ?hd (cs := #[v0, v1]) (t := 79) ?hr ?_; (case hd => rfl); (case hg => rfl); (case hr => first | (go_simp; done) | (go_simp; rfl)); intro gb hgb w3 hbox hb; have hv := (blk_cell (blk_below HC.out hb) 0).trans rfl; have hb0 := (blk_cell hbox 0).trans rfl; have hb1 := (blk_cell hbox 1).trans rfl; have HB3 := Aside0.mk hb; clear hb hbox hgb)
    | ((with_reducible refine gate_builtin (b := .append) (xs := #[.tmp 3, .tmp 5]) rfl ?_); at_builtin; refine Kd.S_append k79 (w0 := w) B rfl (.tmp 3) (.tmp 5) 103 79 _ 48 rfl Tryz.underlying103 HI.out rfl (by decide) (by omega) v ts x [v0, v1] (fun k => (O k ∨ N0 ≤ k) ∧ k ≠ go) (fun k => N0 ≤ k) rfl rfl ?aM ?aK ?aF ?aO ?aB ?aS ?aL ?_; (case aM => exact k79_mkM _ _ _ x (Kd.R_lower (Kd.R_mono (Kd.R_bound (Kd.R_below H0.out HB3.out)) (fun k hk => hk.2.1)) (by have := HN.out; omega)) (Kd.R_lower (Kd.R_mono (Kd.R_bound (Kd.R_below H1.out HB3.out)) (fun k hk => hk.2.1)) (by have := HN.out; omega))); (case aK => exact fun k hk => ⟨⟨.inr hk, by have := HN.out; omega⟩, fun e => by have := ((Kd.S_R HO.out).1 k e.symm).2; omega⟩); (case aF => exact fun k hk => ⟨.inr (by have := HN.out; have := HB3.out.size; omega), by have := HN.out; have := HB3.out.size; omega⟩); (case aO => exact Kd.S_mono (Kd.S_below HO.out HB3.out) (fun k hk => ⟨⟨.inl hk.1, fun e => HN.out.2.2.2 (e ▸ hk.1)⟩, by have := hk.2; omega⟩)); (case aB => exact HB3.out.mono (by have := HN.out; omega)); (case aS => have := HN.out; have := HB3.out.size; omega); (case aL => have := HL.out; simp; omega); intro v5 w5 hS5 hB5 hg5 hat5; have HS5 := Aside0.mk hS5; have HB5 := Aside0.mk hB5; have HG5 := Aside0.mk hg5; clear hS5 hB5 hg5 hat5; have hb5 := blk_grown (blk_below HC.out HB3.out) HG5.out (fun e => HN.out.2.2.2 ((Kd.S_R HO.out).1 _ e.symm).1); have hcc5 := (blk_cell hb5 0).trans rfl; have hff5 := blk_frozen hb5 0; have BK5 := Aside0.mk hb5; clear hb5; obtain ⟨A5, n5, c5, hv5⟩ : ∃ A n c, v5 = .slice A n c := (by obtain ⟨A, c, h⟩ := Kd.S_slice HS5.out; exact ⟨A, _, c, h⟩); subst hv5))
  go_end0
  exact ⟨rfl, _, one_setCell BK5.out, Kd.S_far (p := ⟨go, 0, none⟩) HS5.out (fun k hk => hk.2) _, Kept.setCell (Kept.of_grown HG5.out (Kept.of_below HB3.out _) (fun k hk => .inl (.inl ((Kd.S_R HO.out).1 k hk).1))) (.inl (.inr rfl)) _, HB5.out.setCell (show B ≤ go by have := HN.out; omega) _⟩
theorem impl_grow.w64 (n : Int) (h1 : -9223372036854775808 ≤ n) (h2 : n ≤ 9223372036854775807) : wrap64 n = n := by unfold wrap64; omega
theorem impl_grow.at_eq (l : List Int) (a : Int) (hl : l.length ≤ 4000000) : impl_at.f l a = some (Gr.atL l a) := by
  unfold impl_at.f impl_within.f Gr.atL rd
  rw [impl_grow.w64 _ (by omega) (by omega)]
  by_cases h0 : 0 ≤ a
  · rw [if_pos h0]
    by_cases h1 : a < (l.length : Int)
    · have h2 : a ≤ (l.length : Int) - 1 := by omega
      simp [h0, h1, h2]
    · have h2 : ¬ a ≤ (l.length : Int) - 1 := by omega
      simp [h1, h2]
  · rw [if_neg h0]
    simp [h0]
theorem impl_grow.atL_bound (l : List Int) (a : Int) (h : ∀ x ∈ l, 0 ≤ x ∧ x ≤ 9) : 0 ≤ Gr.atL l a ∧ Gr.atL l a ≤ 9 := by
  unfold Gr.atL
  split
  · rename_i hc
    have hlt : a.toNat < l.length := by omega
    have := h (l.getD a.toNat 0) (by simp [List.getD, hlt])
    exact this
  · omega
theorem impl_grow.entry_eq (inner : List Int) (rows : List (List Int)) (i : Nat) (c : Int) (hi : i ≤ rows.length) (hl : inner.length ≤ 4000000) (hr : rows.length ≤ 4000000) (hrs : ∀ r ∈ rows, r.length ≤ 4000000) (hb : ∀ x ∈ inner, 0 ≤ x ∧ x ≤ 9) (hc : -4000000 ≤ c ∧ c ≤ 4000000) :
    impl_Tableau_entry.f inner rows ((i : Int) - 1) c = some (Gr.above inner rows i c) := by
  unfold impl_Tableau_entry.f impl_within.f Gr.above
  rw [impl_grow.w64 _ (by omega) (by omega)]
  by_cases h0 : 0 < i
  · have h1 : (0 : Int) ≤ (i : Int) - 1 := by omega
    have h2 : (i : Int) - 1 ≤ (rows.length : Int) - 1 := by omega
    have h3 : (i : Int) - 1 < (rows.length : Int) := by omega
    have h4 := impl_grow.atL_bound inner ((i : Int) - 1) hb
    have h5 : ((i : Int) - 1).toNat = i - 1 := by omega
    have h6 : (rd_L3 rows ((i : Int) - 1)) = rows.getD (i - 1) [] := by unfold rd_L3; rw [h5]
    have h7 : (rows.getD (i - 1) []).length ≤ 4000000 := hrs _ (by have : i - 1 < rows.length := by omega
                                                                   simp [List.getD, this])
    simp only [if_pos h1, decide_eq_true h2, Option.bind_some, if_pos h3, if_pos h0, impl_grow.at_eq inner _ hl, h6, if_true]
    rw [impl_grow.w64 _ (by omega) (by omega), impl_grow.at_eq _ _ h7]
    rfl
  · have h1 : ¬ (0 : Int) ≤ (i : Int) - 1 := by omega
    rw [if_neg h1]
    simp [h0]
def impl_grow.step (fin : List (List Int) → List (List (List Int))) (outer inner : List Int) (k : Int) (left : Nat) (rows : List (List Int)) (i : Nat) : List (List (List Int)) :=
  if Gr.skip outer inner rows k i then [] else Gr.putL fin outer inner k left (rows.set i (rows.getD i [] ++ [k])) i
theorem impl_grow.own_same (A : Option Addr) (n m c : Nat) : (Value.slice A m c).ownBlock = (Value.slice A n c).ownBlock := by
  cases A <;> rfl
theorem impl_grow.own_cut {w : World} {B c : Nat} {A : Option Addr} {xs ys : List Int} {k : Int} (hy : ys = xs ++ [k]) (hl : ys.length = xs.length + 1) (h : w.ownsRow B 3 1 (.slice A (xs.length + 1) c) (xs.length + 1) (nums .i64 ys)) : w.ownsRow B 3 1 (.slice A xs.length c) xs.length (nums .i64 xs) := by
  rw [← hl] at h
  have hR : Kd.R (Kd.int .i64) 3 w B (fun _ => True) (.slice A ys.length c) ys := Kd.R_of_own h (fun _ _ => trivial)
  have h2 := Kd.R_take hR (m := xs.length) (by omega)
  have e : ys.take xs.length = xs := by rw [hy]; simp
  rw [e] at h2
  exact Kd.own_of_R h2
theorem impl_grow.cutrun {P : Program} {t e : TypeId} {z : Option Value} {b : Nat} {w : World} {B c n : Nat} {A : Option Addr} {ys : List Int} (hs : (P.info? e).map (fun i => (i.zero, i.size, i.bytes)) = some (z, 1, b)) (ht : P.underlying t = some (.slice e)) (hl : ys.length = n + 1) (ho : w.ownsRow B 3 1 (.slice A (n + 1) c) (n + 1) (nums .i64 ys)) (W : World) :
    Sem.run P (Instr.slice t (.slice A (n + 1) c) none (some (.int .i64 (n : Int))) none) W = .ok (.slice A n c) W := by
  obtain ⟨i, hi, hz⟩ := Option.map_eq_some_iff.1 hs
  have hsz : i.size = 1 := by simp only [Prod.mk.injEq] at hz; exact hz.2.1
  have hc : n + 1 ≤ c := (impl_grow.own_reads ho hl).1
  have h := (print_take_of (P := P) (Value.int .i64) 0 t e .i64 ht hi hsz A c ys (n : Int) (by omega) (by omega) (by omega)).1 W
  rw [hl] at h
  rw [show (ys.take ((n : Nat) : Int).toNat).length = n from by rw [Int.toNat_natCast, List.length_take]; omega] at h
  exact h
theorem impl_grow.step_skip {fin : List (List Int) → List (List (List Int))} {outer inner : List Int} {k : Int} {left : Nat} {rows : List (List Int)} {i : Nat} (h : Gr.skip outer inner rows k i = true) : impl_grow.step fin outer inner k left rows i = [] := by
  unfold impl_grow.step
  rw [if_pos h]
theorem impl_grow.step_go {fin : List (List Int) → List (List (List Int))} {outer inner : List Int} {k : Int} {left : Nat} {rows : List (List Int)} {i : Nat} (h : Gr.skip outer inner rows k i = false) : impl_grow.step fin outer inner k left rows i = Gr.putL fin outer inner k left (rows.set i (rows.getD i [] ++ [k])) i := by
  unfold impl_grow.step
  rw [if_neg (by rw [h]; simp)]
theorem impl_grow.bound_set {rows : List (List Int)} {i left t : Nat} {k : Int} (h : ∀ r ∈ rows, r.length + (left + 1) + t ≤ 1000) (hi : i < rows.length) : ∀ r ∈ rows.set i (rows.getD i [] ++ [k]), r.length + left + t ≤ 1000 := by
  intro r hr
  rcases List.mem_or_eq_of_mem_set hr with h1 | h1
  · have := h r h1; omega
  · have := h (rows.getD i []) (by simp [List.getD, hi])
    rw [h1, List.length_append]
    simp only [List.length_singleton]
    omega
theorem impl_grow.getD_set (rows : List (List Int)) (i : Nat) (ys : List Int) (h : i < rows.length) : (rows.set i ys).getD i [] = ys := by
  simp [List.getD, h]
theorem impl_grow.set_back (rows : List (List Int)) (i : Nat) (ys xs : List Int) (h : xs = rows.getD i []) (hi : i < rows.length) : (rows.set i ys).set i xs = rows := by
  rw [List.set_set, h]
  apply List.ext_getElem?
  intro j
  rw [List.getElem?_set]
  split
  · rename_i e
    subst e
    simp [List.getD, hi]
  · rfl
theorem impl_grow.pred_of {i g n : Nat} (h : n ≤ i + g) (hi : i < n) : ∃ g', g = g' + 1 := ⟨g - 1, by omega⟩
theorem impl_grow.next {r i n g : Nat} (h : r ≤ i ∧ i ≤ n ∧ n ≤ i + (g + 1)) (hi : i < n) : r ≤ i + 1 ∧ i + 1 ≤ n ∧ n ≤ (i + 1) + g := by omega
theorem impl_grow.acc {α : Type} (f : Nat → List α) (row i : Nat) (h : row ≤ i) : (List.range' row (i + 1 - row)).flatMap f = (List.range' row (i - row)).flatMap f ++ f i := by
  rw [show i + 1 - row = (i - row) + 1 from by omega, List.range'_1_concat, List.flatMap_append, show row + (i - row) = i from by omega]
  simp
theorem impl_grow.acc_le {α : Type} (f : Nat → List α) (row i n : Nat) (h : row ≤ i) (hi : i < n) : ((List.range' row (i - row)).flatMap f).length + (f i).length ≤ ((List.range' row (n - row)).flatMap f).length := by
  have h1 := impl_grow.acc f row i h
  have h2 : List.range' row (n - row) = List.range' row (i + 1 - row) ++ List.range' (i + 1) (n - (i + 1)) := by
    rw [show n - row = (i + 1 - row) + (n - (i + 1)) from by omega, ← List.range'_append_1, show row + (i + 1 - row) = i + 1 from by omega]
  rw [h2, List.flatMap_append, h1, List.length_append, List.length_append]
  omega
def impl_tableaux.T206_1 : Bool × List (List Nat × List Nat) := (true, [([], []), ([], []), ([], []), ([2], [2]), ([], []), ([4], [4]), ([], []), ([0, 1, 3, 5, 6], [0, 1, 3, 5, 6])])
def impl_tableaux.B206_1 : List Nat := [0, 0, 0, 4, 0, 16, 0, 127]
theorem impl_tableaux.tab206_1 : rtab .any (opsOf Tryz.f206 1) = impl_tableaux.T206_1 := by kernel_rfl
theorem impl_tableaux.bits206_1 : waitsOk impl_tableaux.T206_1.2 impl_tableaux.B206_1 = true := by kernel_rfl
def impl_tableaux.T206_5 : Bool × List (List Nat × List Nat) := (true, [([], []), ([0], [0]), ([], []), ([1, 2], [1, 2]), ([], []), ([4], [4]), ([], []), ([5, 6], [5, 6]), ([7], [7]), ([8], [8]), ([3, 9], [3, 9]), ([10, 3, 0, 1, 2, 3, 4, 5, 6, 7, 8, 9, 10], [10])])
def impl_tableaux.B206_5 : List Nat := [0, 1, 0, 7, 0, 16, 0, 112, 240, 496, 1023, 2047]
theorem impl_tableaux.tab206_5 : rtab .any (opsOf Tryz.f206 5) = impl_tableaux.T206_5 := by kernel_rfl
theorem impl_tableaux.bits206_5 : waitsOk impl_tableaux.T206_5.2 impl_tableaux.B206_5 = true := by kernel_rfl
def impl_tableaux.T206_9 : Bool × List (List Nat × List Nat) := (true, [([], []), ([0], [0]), ([], []), ([], []), ([3], [3]), ([], []), ([4, 5], [4, 5]), ([6], [6]), ([], []), ([8], [8]), ([7, 9], [7, 9]), ([1, 2, 0, 1, 2, 3, 4, 5, 6, 7, 8, 9, 10], [1, 2]), ([11, 10, 10, 0, 1, 2, 3, 4, 5, 6, 7, 8, 9, 10], [10, 11])])
def impl_tableaux.B206_9 : List Nat := [0, 1, 0, 0, 8, 0, 56, 120, 0, 256, 1016, 2047, 4095]
theorem impl_tableaux.tab206_9 : rtab .any (opsOf Tryz.f206 9) = impl_tableaux.T206_9 := by kernel_rfl
theorem impl_tableaux.bits206_9 : waitsOk impl_tableaux.T206_9.2 impl_tableaux.B206_9 = true := by kernel_rfl
def impl_tableaux.T206_11 : Bool × List (List Nat × List Nat) := (true, [([], []), ([0], [0]), ([], []), ([], []), ([3], [3]), ([], []), ([4, 5], [4, 5]), ([6], [6]), ([], []), ([8], [8]), ([], []), ([9, 10], [9, 10]), ([11], [11]), ([12], [12]), ([13], [13]), ([7, 14], [7, 14]), ([1, 2, 0, 1, 2, 3, 4, 5, 6, 7, 8, 9, 10, 11, 12, 13, 14, 15], [1, 2]), ([16, 15, 0, 1, 2, 3, 4, 5, 6, 7, 8, 9, 10, 11, 12, 13, 14, 15], [15, 16])])
def impl_tableaux.B206_11 : List Nat := [0, 1, 0, 0, 8, 0, 56, 120, 0, 256, 0, 1792, 3840, 7936, 16128, 32760, 65535, 131071]
theorem impl_tableaux.tab206_11 : rtab .any (opsOf Tryz.f206 11) = impl_tableaux.T206_11 := by kernel_rfl
theorem impl_tableaux.bits206_11 : waitsOk impl_tableaux.T206_11.2 impl_tableaux.B206_11 = true := by kernel_rfl
set_option maxHeartbeats 4000000 in
set_option maxRecDepth 100000 in
theorem impl_grow.put_calls (B go gR : Nat) (outer inner : List Int) (Ao Ai At : Option Addr) (co ci ct : Nat) (hco : outer.length ≤ co) (hci : inner.length ≤ ci) (hct : inner.length ≤ ct)
    (hbo : ∀ x ∈ outer, 0 ≤ x ∧ x ≤ 9) (hbi : ∀ x ∈ inner, 0 ≤ x ∧ x ≤ 9) (hlo : outer.length ≤ 1000) (hli : inner.length ≤ 1000) (w0 : Int) (ws : List Int) (k : Int) (hk0 : 0 ≤ k) (hk1 : k + (ws.length : Int) + 1 ≤ 1000) (cw : Nat) (Aw : Option Addr) (hcw : ws.length + 1 ≤ cw)
    (ih : impl_grow.Ok B go gR outer inner Ao Ai At co ci ct ws) (bs bt bk bw be bp : Nat) :
    ∀ (left row : Nat) (rows : List (List Int)) (ts : List S79) (T O : Nat → Prop) (w : World), impl_grow.St w B go gR T O rows ts → rows.length = outer.length → row ≤ outer.length → (∀ r ∈ rows, r.length + left + impl_grow.total ws ≤ 1000) →
      ts.length + (Gr.putL (fun rows => Gr.growL outer inner ws rows (k + 1)) outer inner k left rows row).length < 2000000000 →
      impl_grow.Reads w (impl_grow.Mg go T O) Ao outer → impl_grow.Reads w (impl_grow.Mg go T O) Ai inner → impl_grow.Reads w (impl_grow.Mg go T O) At inner → impl_grow.Reads w (impl_grow.Mg go T O) Aw (w0 :: ws) →
      impl_grow.Boxes w (impl_grow.Mg go T O) go gR outer inner Ao Ai At co ci ct k Aw (ws.length + 1) cw bs bt bk bw be bp →
      Calls Tryz.prog 206 #[.int .i64 row, .int .i64 left, .pointer (some ⟨bs, 0, none⟩), .pointer (some ⟨bt, 0, none⟩), .pointer (some ⟨bk, 0, none⟩), .pointer (some ⟨bw, 0, none⟩), .pointer (some ⟨be, 0, none⟩), .pointer (some ⟨bp, 0, none⟩)] w
        fun e w' => e = .returned (.tuple #[]) ∧ impl_grow.Done w w' B go gR T O rows (ts ++ (Gr.putL (fun rows => Gr.growL outer inner ws rows (k + 1)) outer inner k left rows row).map (fun r => ⟨inner, r⟩)) := by
  intro left
  induction left with
  | zero =>
    intro row rows ts T O w hst hrl hrow hrs hts hAo hAi hAt hAw hB
    have hu38 := Tryz.underlying74
    have hu56 := Tryz.underlying79
    have hinfo : (Tryz.prog.info? 3).map (·.size) = some 1 := by kernel_rfl
    obtain ⟨i0, hi0, hsz0⟩ := Option.map_eq_some_iff.1 hinfo
    obtain ⟨Aw', hcut, hcutr⟩ := print_cut_of (P := Tryz.prog) (Value.int .i64) 0 24 3 .i64 Tryz.underlying24 hi0 hsz0 Aw (ws.length + 1) cw 1 (by omega)
    have hAw' : impl_grow.Reads w (impl_grow.Mg go T O) Aw' ws := fun W hW => by
      have h1 := hcutr W (w0 :: ws) hcw (Kd.reads_of_C (hAw W hW))
      exact Kd.C_of_reads (d := (0 : Int)) (h1 := fun _ => rfl) (by simpa using h1)
    rw [show ((1 : Nat) : Int) = 1 from rfl, Nat.add_sub_cancel] at hcut
    clear hinfo hcutr hAw
    have hkw : wrap64 (k + 1) = k + 1 := impl_grow.w64 _ (by omega) (by omega)
    have HST := Aside0.mk (hst.below (w' := w.drew) (Below.refl _ _).drew)
    have HAo := Aside0.mk (hAo.to (w' := w.drew) (Kept.refl _ _).drew (fun _ h => .inl h))
    have HAi := Aside0.mk (hAi.to (w' := w.drew) (Kept.refl _ _).drew (fun _ h => .inl h))
    have HAt := Aside0.mk (hAt.to (w' := w.drew) (Kept.refl _ _).drew (fun _ h => .inl h))
    have HAw := Aside0.mk (hAw'.to (w' := w.drew) (Kept.refl _ _).drew (fun _ h => .inl h))
    have HB := Aside0.mk hB
    have HRS := Aside0.mk hrs
    have HTS := Aside0.mk hts
    have HBO := Aside0.mk (And.intro hbo hbi)
    have IH := Aside0.mk ih
    clear hst hAo hAi hAt hAw' hB hrs hts hbo hbi ih
    go_enter Tryz.func206, Tryz.ntmps206
    go_wp2
    refine start_ (n := 8) (S := fun w' => w'.cell? ⟨bs, 0, none⟩ = some (.slice Ao outer.length co) ∧ w'.cell? ⟨bs, 1, none⟩ = some (.slice Ai inner.length ci) ∧ w'.cell? ⟨bt, 0, none⟩ = some (.slice At inner.length ct) ∧ w'.cell? ⟨bt, 1, none⟩ = some (.slice (some ⟨gR, 0, none⟩) outer.length outer.length) ∧ w'.cell? ⟨bk, 0, none⟩ = some (.int .i64 k) ∧ w'.cell? ⟨bw, 0, none⟩ = some (.slice Aw (ws.length + 1) cw) ∧ w'.cell? ⟨be, 0, none⟩ = some (.func (.func 188) #[] #[.pointer (some ⟨go, 0, none⟩)])) (ds := [7]) #[false, false, false, false, false, false, false, false] (by kernel_rfl) rfl rfl (⟨(blk_cell HB.out.hs 0).trans rfl, (blk_cell HB.out.hs 1).trans rfl, (blk_cell HB.out.ht 0).trans rfl, (blk_cell HB.out.ht 1).trans rfl, (blk_cell HB.out.hk 0).trans rfl, (blk_cell HB.out.hw 0).trans rfl, (blk_cell HB.out.he 0).trans rfl⟩) (fun hHeld => ?_); refine with_tabW impl_tableaux.tab206_1 impl_tableaux.bits206_1 (fun HT_ HW_ => ?_)
    generalize hwd : w.drew = wd at HST HAo HAi HAt HAw hHeld ⊢
    refine take_ (i := 0) (N := some 16) (v := ?_) (a' := ?_) #[true, false, false, false, false, false, false, false] rfl rfl (take_ofW HT_.out HW_.out (by kernel_rfl)) (fun _ _ _ h => h) (Or.inl ⟨by rfl, ?_⟩) hHeld ?_ ?_
    rotate_left
    · rintro w' ⟨s0, s1, s2, s3, s4, s5, s6⟩
      go_simp
      with_reducible rfl
    rotate_left
    · simp only [Act.put, List.setIfInBounds_toArray, List.set_cons_zero, List.set_cons_succ, i64_w, i32_w]
      rfl
    refine take_ (i := 1) (N := some 17) (v := ?_) (a' := ?_) #[true, true, false, false, false, false, false, false] rfl rfl (take_ofW HT_.out HW_.out (by kernel_rfl)) (fun _ _ _ h => h) (Or.inl ⟨by rfl, ?_⟩) hHeld ?_ ?_
    rotate_left
    · rintro w' ⟨s0, s1, s2, s3, s4, s5, s6⟩
      go_simp
      with_reducible rfl
    rotate_left
    · simp only [Act.put, List.setIfInBounds_toArray, List.set_cons_zero, List.set_cons_succ, i64_w, i32_w]
      rfl
    refine take_ (i := 2) (N := some 18) (v := ?_) (a' := ?_) #[true, true, true, false, false, false, false, false] rfl rfl (take_ofW HT_.out HW_.out (by kernel_rfl)) (fun _ _ _ h => h) (Or.inl ⟨by rfl, ?_⟩) hHeld ?_ ?_
    rotate_left
    · rintro w' ⟨s0, s1, s2, s3, s4, s5, s6⟩
      go_simp
      with_reducible rfl
    rotate_left
    · simp only [Act.put, List.setIfInBounds_toArray, List.set_cons_zero, List.set_cons_succ, i64_w, i32_w]
      rfl
    refine pure_ (i := 3) (N := some 19) (v := ?_) (a' := ?_) #[true, true, true, true, false, false, false, false] rfl rfl (any_of HT_.out (by kernel_rfl)) (fun _ _ _ h => h) (Or.inl ⟨by rfl, ?_⟩) ?_ ?_
    rotate_left
    · intro w'
      go_simp
      with_reducible rfl
    rotate_left
    · simp only [Act.put, List.setIfInBounds_toArray, List.set_cons_zero, List.set_cons_succ, i64_w, i32_w]
      rfl
    refine take_ (i := 4) (N := some 20) (v := ?_) (a' := ?_) #[true, true, true, true, true, false, false, false] rfl rfl (take_ofW HT_.out HW_.out (by kernel_rfl)) (fun _ _ _ h => h) (Or.inl ⟨by rfl, ?_⟩) hHeld ?_ ?_
    rotate_left
    · rintro w' ⟨s0, s1, s2, s3, s4, s5, s6⟩
      go_simp
      with_reducible rfl
    rotate_left
    · simp only [Act.put, List.setIfInBounds_toArray, List.set_cons_zero, List.set_cons_succ, i64_w, i32_w]
      rfl
    refine pure_ (i := 5) (N := some 21) (v := ?_) (a' := ?_) #[true, true, true, true, true, true, false, false] rfl rfl (any_of HT_.out (by kernel_rfl)) (fun _ _ _ h => h) (Or.inl ⟨by rfl, ?_⟩) ?_ ?_
    rotate_left
    · intro w'
      go_simp
      with_reducible rfl
    rotate_left
    · simp only [Act.put, List.setIfInBounds_toArray, List.set_cons_zero, List.set_cons_succ, i64_w, i32_w]
      rfl
    refine take_ (i := 6) (N := some 22) (v := ?_) (a' := ?_) #[true, true, true, true, true, true, true, false] rfl rfl (take_ofW HT_.out HW_.out (by kernel_rfl)) (fun _ _ _ h => h) (Or.inl ⟨by rfl, ?_⟩) hHeld ?_ ?_
    rotate_left
    · rintro w' ⟨s0, s1, s2, s3, s4, s5, s6⟩
      go_simp
      with_reducible rfl
    rotate_left
    · simp only [Act.put, List.setIfInBounds_toArray, List.set_cons_zero, List.set_cons_succ, i64_w, i32_w]
      rfl
    refine last_ (i := 7) (N := some 23) #[true, true, true, true, true, true, true, true] rfl rfl (one_of HT_.out (by kernel_rfl)) (by decide) (fun K hK => ?_)
    refine goes_ Tryz.func187 (by kernel_rfl) rfl #[.agg #[.slice Ao outer.length co, .slice Ai inner.length ci], .agg #[.slice At inner.length ct, .slice (some ⟨gR, 0, none⟩) outer.length outer.length], .int .i64 (wrap64 (k + 1)), .slice Aw' ws.length (cw - 1), .func (.func 188) #[] #[.pointer (some ⟨go, 0, none⟩)]] (by rfl) rfl rfl (by (try simp only [List.map_toArray, List.map_cons, List.map_nil]); rfl) ?_
    rw [hkw]
    refine (IH.out (k + 1) rows ts T O wd Aw' (cw - 1) HST.out hrl (fun r hr => by have := HRS.out r hr; omega) (by omega) (by omega) (by have := HTS.out; simpa [Gr.putL] using this) HAo.out HAi.out HAt.out HAw.out (by omega)).mono ?_
    rintro e w' ⟨rfl, hD⟩
    refine ⟨_, rfl, ?_⟩
    refine hK.out _ _ ?_
    refine done_ (done_of HT_.out (by kernel_rfl)) ?_
    go_wp2
    refine bodyPost_ret (results_none rfl _ _ _) rfl ?_
    subst hwd
    exact ⟨rfl, impl_grow.Done.from_ (Kept.refl _ _).drew (fun _ h => .inl h) (Below.refl _ _).drew (by simpa only [Gr.putL] using hD)⟩
  | succ left ihl =>
    intro row rows ts T O w hst hrl hrow hrs hts hAo hAi hAt hAw hB
    have hu38 := Tryz.underlying74
    have hu56 := Tryz.underlying79
    have hl0 : ¬ ((left + 1 : Nat) : Int) = 0 := by omega
    obtain ⟨lf, hlf⟩ : ∃ l : Int, l = ((left + 1 : Nat) : Int) := ⟨_, rfl⟩
    rw [← hlf] at hl0 ⊢
    have hl0b : (lf == 0) = false := beq_false_of_ne hl0
    have HLF := Aside0.mk hlf
    have HST := Aside0.mk hst
    have HAo := Aside0.mk hAo
    have HAi := Aside0.mk hAi
    have HAt := Aside0.mk hAt
    have HAw := Aside0.mk hAw
    have HB := Aside0.mk hB
    have HRS := Aside0.mk hrs
    have HTS := Aside0.mk hts
    have HBO := Aside0.mk (And.intro hbo hbi)
    have IH := Aside0.mk ihl
    have HRL := Aside0.mk hrl
    have HROW := Aside0.mk hrow
    have HINF := Aside0.mk (show (Tryz.prog.info? 3).map (fun i => (i.zero, i.size, i.bytes)) = some (some (.int .i64 0), 1, 8) from by kernel_rfl)
    clear hst hAo hAi hAt hAw hB hrs hts hbo hbi ihl hlf hrl hrow ih
    go_enter Tryz.func206, Tryz.ntmps206
    go_wp2
    go_loopg [10] outer.length (fun kq v10 wr => ∃ i : Nat, v10 = .int .i64 (i : Int) ∧ Aside0 (row ≤ i ∧ i ≤ outer.length ∧ outer.length ≤ i + kq) ∧ Aside0 (impl_grow.Done w wr B go gR T O rows (ts ++ ((List.range' row (i - row)).flatMap (impl_grow.step (fun rows => Gr.growL outer inner ws rows (k + 1)) outer inner k left rows)).map (fun r => ⟨inner, r⟩))))
    case atStart => have h := HROW.out; exact ⟨row, rfl, ⟨Nat.le_refl _, h, by omega⟩, ⟨by simpa using impl_grow.Done.refl HST.out⟩⟩
    case round =>
      obtain ⟨i, rfl, HI, HD⟩ := hrel
      obtain ⟨T1, O1, hst1, hk1, hM1, hb1⟩ := HD.out
      have HST1 := Aside0.mk hst1
      have HK1 := Aside0.mk hk1
      have HM1 := Aside0.mk hM1
      have HBL1 := Aside0.mk hb1
      have HB1 := Aside0.mk (HB.out.to hk1 hM1)
      have HAo1 := Aside0.mk (HAo.out.to hk1 hM1)
      have HAi1 := Aside0.mk (HAi.out.to hk1 hM1)
      have HAt1 := Aside0.mk (HAt.out.to hk1 hM1)
      have HAw1 := Aside0.mk (HAw.out.to hk1 hM1)
      clear hst1 hk1 hM1 hb1 HD HST HAo HAi HAt HAw HB
      have xs0 := (blk_cell HB1.out.hs 0).trans rfl
      have xs1 := (blk_cell HB1.out.hs 1).trans rfl
      by_cases hlt : (i : Int) < (outer.length : Int)
      · have hi0 : (0 : Int) ≤ (i : Int) := Int.natCast_nonneg i
        have HILT : i < outer.length := by omega
        obtain ⟨g1, rfl⟩ := impl_grow.pred_of HI.out.2.2 HILT
        have HR := Aside0.mk (HST1.out.rowsAt.row i (by rw [HRL.out]; exact HILT))
        have xt0 := (blk_cell HB1.out.ht 0).trans rfl
        have xt1 := (blk_cell HB1.out.ht 1).trans rfl
        have xk := (blk_cell HB1.out.hk 0).trans rfl
        obtain ⟨xs, hxs⟩ : ∃ xs, xs = rows.getD i [] := ⟨_, rfl⟩
        have HXS := Aside0.mk hxs
        have hxlen : xs.length ≤ 1000 := by
          have := HRS.out xs (by rw [hxs]; have : i < rows.length := by rw [HRL.out]; exact HILT
                                 simp [List.getD, this])
          omega
        obtain ⟨Ar, cr, hcr, hownr, hblkr⟩ := HR.out
        rw [← hxs] at hcr hownr hblkr
        have HOWNR := Aside0.mk hownr
        have HBLKR := Aside0.mk hblkr
        obtain ⟨a0, ha0⟩ : ∃ a, a = Gr.atL inner (i : Int) := ⟨_, rfl⟩
        have ha0b := impl_grow.atL_bound inner (i : Int) HBO.out.2
        rw [← ha0] at ha0b
        have ATI : ∀ W, Kd.C (Kd.int .i64) W Ai inner.length inner → Calls Tryz.prog 135 #[.slice Ai inner.length ci, .int .i64 (i : Int)] W fun e w' => e = .returned (.int .i64 a0) ∧ Drawn0 W w' :=
          fun W hW => impl_at.calls Ai ci inner (i : Int) a0 W hW hci (by rw [ha0]; exact impl_grow.at_eq inner _ (by omega))
        obtain ⟨cI, hcI⟩ : ∃ c, c = Gr.col inner rows i := ⟨_, rfl⟩
        have hcI' : cI = a0 + (xs.length : Int) := by rw [hcI, ha0, hxs]; rfl
        have hcIb : 0 ≤ cI ∧ cI ≤ 1009 := by omega
        have hwcI : wrap64 (a0 + (xs.length : Int)) = cI := by rw [impl_grow.w64 _ (by omega) (by omega)]; exact hcI'.symm
        obtain ⟨ab, hab⟩ : ∃ a, a = Gr.above inner rows i cI := ⟨_, rfl⟩
        have HCI := Aside0.mk hcI
        have HAB := Aside0.mk hab
        have HA0 := Aside0.mk ha0
        have ENT : ∀ W, Kd.C (Kd.int .i64) W At inner.length inner → Kd.C (Kd.slice 3 (Kd.int .i64)) W (some ⟨gR, 0, none⟩) rows.length rows → Calls Tryz.prog 169 #[.agg #[.slice At inner.length ct, .slice (some ⟨gR, 0, none⟩) outer.length outer.length], .int .i64 ((i : Int) - 1), .int .i64 cI] W fun e w' => e = .returned (.int .i64 ab) ∧ Below W.heap.size W w' := by
          intro W h1 h2
          have h := impl_Tableau_entry.calls At ct inner (some ⟨gR, 0, none⟩) outer.length rows ((i : Int) - 1) cI ab W h1 hct h2 (by rw [HRL.out]; exact Nat.le_refl _) (by rw [hab]; exact impl_grow.entry_eq inner rows i cI (by rw [HRL.out]; omega) (by omega) (by rw [HRL.out]; omega) (fun r hr => by have := HRS.out r hr; omega) HBO.out.2 (by omega))
          rw [HRL.out] at h
          exact h
        clear HR hxs hownr hblkr ha0 hcI hcI' hab
        go_wp2
        refine start_ (n := 12) (S := fun w' => w'.cell? ⟨bs, 1, none⟩ = some (.slice Ai inner.length ci) ∧ w'.cell? ⟨bt, 1, none⟩ = some (.slice (some ⟨gR, 0, none⟩) outer.length outer.length) ∧ w'.cell? ⟨gR, i, none⟩ = some (.slice Ar xs.length cr)) (ds := []) #[false, false, false, false, false, false, false, false, false, false, false, false] (by kernel_rfl) rfl rfl (⟨xs1, xt1, hcr⟩) (fun hHeld => ?_); refine with_tabW impl_tableaux.tab206_5 impl_tableaux.bits206_5 (fun HT_ HW_ => ?_)
        generalize hwd : wr.drew = wd at hHeld ⊢
        refine pure_ (i := 0) (N := some 32) (v := ?_) (a' := ?_) #[true, false, false, false, false, false, false, false, false, false, false, false] rfl rfl (any_of HT_.out (by kernel_rfl)) (fun _ _ _ h => h) (Or.inl ⟨by rfl, ?_⟩) ?_ ?_
        rotate_left
        · intro w'
          go_simp
          with_reducible rfl
        rotate_left
        · simp only [Act.put, List.setIfInBounds_toArray, List.set_cons_zero, List.set_cons_succ, i64_w, i32_w]
          rfl
        refine pure_ (i := 2) (N := some 34) (v := ?_) (a' := ?_) #[true, false, true, false, false, false, false, false, false, false, false, false] rfl rfl (any_of HT_.out (by kernel_rfl)) (fun _ _ _ h => h) (Or.inl ⟨by rfl, ?_⟩) ?_ ?_
        rotate_left
        · intro w'
          go_simp
          with_reducible rfl
        rotate_left
        · simp only [Act.put, List.setIfInBounds_toArray, List.set_cons_zero, List.set_cons_succ, i64_w, i32_w]
          rfl
        refine pure_ (i := 4) (N := some 36) (v := ?_) (a' := ?_) #[true, false, true, false, true, false, false, false, false, false, false, false] rfl rfl (any_of HT_.out (by kernel_rfl)) (fun _ _ _ h => h) (Or.inl ⟨by rfl, ?_⟩) ?_ ?_
        rotate_left
        · intro w'
          go_simp
          with_reducible rfl
        rotate_left
        · simp only [Act.put, List.setIfInBounds_toArray, List.set_cons_zero, List.set_cons_succ, i64_w, i32_w]
          rfl
        refine pure_ (i := 6) (N := some 38) (v := ?_) (a' := ?_) #[true, false, true, false, true, false, true, false, false, false, false, false] rfl rfl (any_of HT_.out (by kernel_rfl)) (fun _ _ _ h => h) (Or.inl ⟨by rfl, ?_⟩) ?_ ?_
        rotate_left
        · intro w'
          go_simp
          with_reducible rfl
        rotate_left
        · simp only [Act.put, List.setIfInBounds_toArray, List.set_cons_zero, List.set_cons_succ, i64_w, i32_w]
          rfl
        refine take_ (i := 1) (N := some 33) (v := ?_) (a' := ?_) #[true, true, true, false, true, false, true, false, false, false, false, false] rfl rfl (take_ofW HT_.out HW_.out (by kernel_rfl)) (fun _ _ _ h => h) (Or.inl ⟨by rfl, ?_⟩) hHeld ?_ ?_
        rotate_left
        · rintro w' ⟨s0, s1, s2⟩
          go_simp
          with_reducible rfl
        rotate_left
        · simp only [Act.put, List.setIfInBounds_toArray, List.set_cons_zero, List.set_cons_succ, i64_w, i32_w]
          rfl
        refine take_ (i := 5) (N := some 37) (v := ?_) (a' := ?_) #[true, true, true, false, true, true, true, false, false, false, false, false] rfl rfl (take_ofW HT_.out HW_.out (by kernel_rfl)) (fun _ _ _ h => h) (Or.inl ⟨by rfl, ?_⟩) hHeld ?_ ?_
        rotate_left
        · rintro w' ⟨s0, s1, s2⟩
          go_simp
          with_reducible rfl
        rotate_left
        · simp only [Act.put, List.setIfInBounds_toArray, List.set_cons_zero, List.set_cons_succ, i64_w, i32_w]
          rfl
        refine pure_ (i := 7) (N := some 39) (v := ?_) (a' := ?_) #[true, true, true, false, true, true, true, true, false, false, false, false] rfl rfl (any_of HT_.out (by kernel_rfl)) (fun _ _ _ h => h) (Or.inl ⟨by rfl, ?_⟩) ?_ ?_
        rotate_left
        · intro w'
          go_simp
          with_reducible rfl
        rotate_left
        · simp only [Act.put, List.setIfInBounds_toArray, List.set_cons_zero, List.set_cons_succ, i64_w, i32_w]
          rfl
        refine take_ (i := 8) (N := some 40) (v := ?_) (a' := ?_) #[true, true, true, false, true, true, true, true, true, false, false, false] rfl rfl (take_ofW HT_.out HW_.out (by kernel_rfl)) (fun _ _ _ h => h) (Or.inl ⟨by rfl, ?_⟩) hHeld ?_ ?_
        rotate_left
        · rintro w' ⟨s0, s1, s2⟩
          go_simp
          with_reducible rfl
        rotate_left
        · simp only [Act.put, List.setIfInBounds_toArray, List.set_cons_zero, List.set_cons_succ, i64_w, i32_w]
          rfl
        refine pure_ (i := 9) (N := some 41) (v := ?_) (a' := ?_) #[true, true, true, false, true, true, true, true, true, true, false, false] rfl rfl (any_of HT_.out (by kernel_rfl)) (fun _ _ _ h => h) (Or.inl ⟨by rfl, ?_⟩) ?_ ?_
        rotate_left
        · intro w'
          go_simp
          with_reducible rfl
        rotate_left
        · simp only [Act.put, List.setIfInBounds_toArray, List.set_cons_zero, List.set_cons_succ, i64_w, i32_w]
          rfl
        have hH0 := hHeld
        refine one_ (i := 3) (N := some 35) #[true, true, true, true, true, true, true, true, true, true, false, false] rfl rfl (one_of HT_.out (by kernel_rfl)) (by decide) (fun K hK => ?_)
        refine goes_ Tryz.func135 (by kernel_rfl) rfl #[.slice Ai inner.length ci, .int .i64 (i : Int)] (by rfl) rfl rfl (by (try simp only [List.map_toArray, List.map_cons, List.map_nil]); rfl) ?_
        refine (ATI wd (by subst hwd; exact HAi1.out _ (Kept.refl _ _).drew)).mono ?_
        rintro e w' ⟨rfl, ⟨nd, rfl⟩⟩
        refine ⟨_, rfl, ?_⟩
        refine hK.out _ _ hH0 (fun hHeld => ?_)
        clear hK K
        refine norm_ (a' := ?_) ?_ ?_
        rotate_left
        · show Act.put _ (some 35) _ = _
          simp only [Act.put, List.setIfInBounds_toArray, List.set_cons_zero, List.set_cons_succ, i64_w, i32_w]
          rfl
        refine pure_ (i := 10) (N := some 42) (v := ?_) (a' := ?_) #[true, true, true, true, true, true, true, true, true, true, true, false] rfl rfl (any_of HT_.out (by kernel_rfl)) (fun _ _ _ h => h) (Or.inl ⟨by rfl, ?_⟩) ?_ ?_
        rotate_left
        · intro w'
          go_simp
          with_reducible rfl
        rotate_left
        · simp only [Act.put, List.setIfInBounds_toArray, List.set_cons_zero, List.set_cons_succ, i64_w, i32_w]
          rfl
        refine pure_ (i := 11) (N := some 11) (v := ?_) (a' := ?_) #[true, true, true, true, true, true, true, true, true, true, true, true] rfl rfl (any_of HT_.out (by kernel_rfl)) (fun _ _ _ h => h) (Or.inl ⟨by rfl, ?_⟩) ?_ ?_
        rotate_left
        · intro w'
          go_simp
          with_reducible rfl
        rotate_left
        · simp only [Act.put, List.setIfInBounds_toArray, List.set_cons_zero, List.set_cons_succ, i64_w, i32_w]
          rfl
        refine done_ (done_of HT_.out (by kernel_rfl)) ?_
        have HBE := Aside0.mk (show Below wr.heap.size wr (wd.drewN nd) from by subst hwd; exact pw_below_drewN (Below.refl _ _).drew _)
        clear hH0 hHeld hwd
        generalize wd.drewN nd = we at HBE ⊢
        have HSTE := Aside0.mk (HST1.out.below HBE.out)
        have HBX := Aside0.mk (HB1.out.to (Kept.of_below HBE.out _) (fun _ h => .inl h))
        clear xs0 xs1 xt0 xt1 xk hcr
        have xt0 := (blk_cell HBX.out.ht 0).trans rfl
        have xt1 := (blk_cell HBX.out.ht 1).trans rfl
        have xk := (blk_cell HBX.out.hk 0).trans rfl
        rw [hwcI]
        go_upto_region 7 with (first
          | ((with_reducible refine gate_callee (f := 169) rfl ?_); refine goesL_ (some 47) rfl rfl Tryz.func169 (by kernel_rfl) rfl #[.agg #[.slice At inner.length ct, .slice (some ⟨gR, 0, none⟩) outer.length outer.length], .int .i64 ((i : Int) - 1), .int .i64 cI] (by rfl) (by (try simp only [List.map_toArray, List.map_cons, List.map_nil]); rfl) ?_; refine (ENT we (HAt1.out _ (Kept.of_below HBE.out _)) (HSTE.out.rowsAt.reads (by rw [HRL.out]; omega))).mono ?_; rintro e w6 ⟨rfl, hb6⟩; refine ⟨_, rfl, ?_⟩; have HB6 := Aside0.mk (below_step HBE.out hb6); clear hb6))
        clear ENT xt0 xt1 xk HSTE HBX HBE
        have HST6 := Aside0.mk (HST1.out.below HB6.out)
        have HBX := Aside0.mk (HB1.out.to (Kept.of_below HB6.out _) (fun _ h => .inl h))
        have HAo6 := Aside0.mk (HAo1.out _ (Kept.of_below HB6.out _))
        have HAi6 := Aside0.mk (HAi1.out _ (Kept.of_below HB6.out _))
        have HBL6 := Aside0.mk (show Below B wr w6 from HB6.out.mono (by have h1 := HST1.out.rowsAt.2.1; have h2 := HST1.out.rowsAt.lt; omega))
        have xs1 := (blk_cell HBX.out.hs 1).trans rfl
        have xk := (blk_cell HBX.out.hk 0).trans rfl
        obtain ⟨op, hop⟩ : ∃ b, b = Gr.opened inner rows k i := ⟨_, rfl⟩
        obtain ⟨ap, hap⟩ : ∃ a, a = Gr.atL inner ((i : Int) - 1) := ⟨_, rfl⟩
        have ATP : ∀ W, Kd.C (Kd.int .i64) W Ai inner.length inner → Calls Tryz.prog 135 #[.slice Ai inner.length ci, .int .i64 ((i : Int) - 1)] W fun e w' => e = .returned (.int .i64 ap) ∧ Drawn0 W w' :=
          fun W hW => impl_at.calls Ai ci inner ((i : Int) - 1) ap W hW hci (by rw [hap]; exact impl_grow.at_eq inner _ (by omega))
        have hop' : op = (decide (0 < i) && (decide (ap ≤ cI) && (decide (ab = 0) || decide (ab = k)))) := by
          rw [hop, hap, HCI.out, HAB.out, HCI.out]
          rfl
        have HOP := Aside0.mk hop
        have HOP' := Aside0.mk hop'
        clear hop hop' hap
        go_cut [12, 13] (fun v12 v13 w7 => v13 = .bool op ∧ ∃ m, w7 = w6.drewN m)
        case first =>
          by_cases h1 : (0 : Int) < (i : Int)
          · have h1b : 0 < i := by omega
            by_cases h2 : ap ≤ cI
            · go_wp2_with ((with_reducible refine gate_callee (f := 135) rfl ?_); refine gate_guard (by rfl) ?_; refine goesL_ (some 56) rfl rfl Tryz.func135 (by kernel_rfl) rfl #[.slice Ai inner.length ci, .int .i64 ((i : Int) - 1)] (by rfl) (by (try simp only [List.map_toArray, List.map_cons, List.map_nil]); rfl) ?_; refine (ATP w6 HAi6.out).mono ?_; rintro e w' ⟨rfl, ⟨nd, rfl⟩⟩; refine ⟨_, rfl, ?_⟩)
              all_goals go_meet
              all_goals exact ⟨congrArg Value.bool (by rw [HOP'.out, decide_eq_true h1b, decide_eq_true h2]; first | rfl | (simp [*]; done)), _, rfl⟩
            · go_wp2_with ((with_reducible refine gate_callee (f := 135) rfl ?_); refine gate_guard (by rfl) ?_; refine goesL_ (some 56) rfl rfl Tryz.func135 (by kernel_rfl) rfl #[.slice Ai inner.length ci, .int .i64 ((i : Int) - 1)] (by rfl) (by (try simp only [List.map_toArray, List.map_cons, List.map_nil]); rfl) ?_; refine (ATP w6 HAi6.out).mono ?_; rintro e w' ⟨rfl, ⟨nd, rfl⟩⟩; refine ⟨_, rfl, ?_⟩)
              go_meet
              exact ⟨by rw [HOP'.out, decide_eq_false (show ¬ ap ≤ cI from by omega)]; simp, _, rfl⟩
          · have h1b : ¬ 0 < i := by omega
            go_wp2_with ((with_reducible refine gate_callee (f := 135) rfl ?_); refine gate_guard (by rfl) ?_; refine goesL_ (some 56) rfl rfl Tryz.func135 (by kernel_rfl) rfl #[.slice Ai inner.length ci, .int .i64 ((i : Int) - 1)] (by rfl) (by (try simp only [List.map_toArray, List.map_cons, List.map_nil]); rfl) ?_; refine (ATP w6 HAi6.out).mono ?_; rintro e w' ⟨rfl, ⟨nd, rfl⟩⟩; refine ⟨_, rfl, ?_⟩)
            go_meet
            exact ⟨by rw [HOP'.out, decide_eq_false h1b]; rfl, 0, rfl⟩
        case rest =>
          obtain ⟨rfl, m6, rfl⟩ := hcut
          have HB7 := Aside0.mk (pw_below_drewN HB6.out m6)
          clear xs1 xk ATP HBX HAo6 HAi6 HBL6 HST6
          generalize w6.drewN m6 = w7 at HB7 ⊢
          have HST7 := Aside0.mk (HST1.out.below HB7.out)
          have HBX7 := Aside0.mk (HB1.out.to (Kept.of_below HB7.out _) (fun _ h => .inl h))
          have HBL7 := Aside0.mk (show Below B wr w7 from HB7.out.mono (by have h1 := HST1.out.rowsAt.2.1; have h2 := HST1.out.rowsAt.lt; omega))
          have HK7 := Aside0.mk (Kept.of_below HB7.out (impl_grow.Mg go T1 O1))
          have xs0 := (blk_cell HBX7.out.hs 0).trans rfl
          obtain ⟨ado, eo, hxo⟩ := Kd.at_int (HAo1.out _ HK7.out) (i : Int) hi0 hlt
          cases eo
          rw [Int.toNat_natCast] at hxo
          obtain ⟨oi, hoi⟩ : ∃ o, o = rd outer (i : Int) := ⟨_, rfl⟩
          rw [← hoi] at hxo
          have HSK := Aside0.mk (show Gr.skip outer inner rows k i = (decide (cI = oi) || op) from by unfold Gr.skip; rw [HOP.out, ← HCI.out, hoi]; rfl)
          clear hoi
          have HD7 := Aside0.mk (show impl_grow.Done w w7 B go gR T O rows (ts ++ ((List.range' row (i - row)).flatMap (impl_grow.step (fun rows => Gr.growL outer inner ws rows (k + 1)) outer inner k left rows)).map (fun r => ⟨inner, r⟩)) from
            impl_grow.Done.from_ HK1.out HM1.out HBL1.out ⟨T1, O1, HST7.out, HK7.out, fun _ h => .inl h, HBL7.out⟩)
          by_cases hc : cI = oi
          · have HS := Aside0.mk (impl_grow.step_skip (fin := fun rows => Gr.growL outer inner ws rows (k + 1)) (left := left) (show Gr.skip outer inner rows k i = true from by rw [HSK.out, decide_eq_true hc]; rfl))
            subst hc
            go_wp2
            go_roundg g1
            case measure => exact Nat.lt_succ_self _
            case rel => exact ⟨i + 1, congrArg (Value.int .i64) (show (i : Int) + 1 = ((i + 1 : Nat) : Int) from (Int.natCast_succ i).symm), ⟨impl_grow.next HI.out HILT⟩, ⟨by rw [impl_grow.acc _ _ _ HI.out.1]; rw [HS.out, List.append_nil]; exact HD7.out⟩⟩
          · cases op with
            | true =>
              have HS := Aside0.mk (impl_grow.step_skip (fin := fun rows => Gr.growL outer inner ws rows (k + 1)) (left := left) (show Gr.skip outer inner rows k i = true from by rw [HSK.out, Bool.or_true]))
              go_wp2
              go_roundg g1
              case measure => exact Nat.lt_succ_self _
              case rel => exact ⟨i + 1, congrArg (Value.int .i64) (show (i : Int) + 1 = ((i + 1 : Nat) : Int) from (Int.natCast_succ i).symm), ⟨impl_grow.next HI.out HILT⟩, ⟨by rw [impl_grow.acc _ _ _ HI.out.1]; rw [HS.out, List.append_nil]; exact HD7.out⟩⟩
            | false =>
              have HS := Aside0.mk (impl_grow.step_go (fin := fun rows => Gr.growL outer inner ws rows (k + 1)) (left := left) (show Gr.skip outer inner rows k i = false from by rw [HSK.out, decide_eq_false hc]; rfl))
              go_wp2
              obtain ⟨A9, c9, hcr9, hown9, hblk9⟩ := HST7.out.rowsAt.row i (by rw [HRL.out]; exact HILT)
              rw [← HXS.out] at hcr9 hown9 hblk9
              have HOWN9 := Aside0.mk hown9
              have HBLK9 := Aside0.mk hblk9
              have HNV := Aside0.mk (show ∀ g, ¬ impl_grow.Mg go T1 O1 g → some g ≠ (Value.slice A9 xs.length c9).ownBlock from fun g hg e => hg (.inl (hblk9 g e.symm).1))
              clear hown9 hblk9
              have xt1 := (blk_cell HBX7.out.ht 1).trans rfl
              have xk := (blk_cell HBX7.out.hk 0).trans rfl
              refine start_ (n := 13) (S := fun w' => w'.cell? ⟨bt, 1, none⟩ = some (.slice (some ⟨gR, 0, none⟩) outer.length outer.length) ∧ w'.cell? ⟨gR, i, none⟩ = some (.slice A9 xs.length c9) ∧ w'.cell? ⟨bk, 0, none⟩ = some (.int .i64 k)) (ds := [12]) #[false, false, false, false, false, false, false, false, false, false, false, false, false] (by kernel_rfl) rfl rfl (⟨xt1, hcr9, xk⟩) (fun hHeld => ?_); refine with_tabW impl_tableaux.tab206_9 impl_tableaux.bits206_9 (fun HT_ HW_ => ?_)
              have HB8 := Aside0.mk (show Below w7.heap.size w7 w7.drew from (Below.refl _ _).drew)
              generalize w7.drew = w8 at HB8 hHeld ⊢
              clear xs0 xt1 xk hcr9 hxo
              refine pure_ (i := 0) (N := some 78) (v := ?_) (a' := ?_) #[true, false, false, false, false, false, false, false, false, false, false, false, false] rfl rfl (any_of HT_.out (by kernel_rfl)) (fun _ _ _ h => h) (Or.inl ⟨by rfl, ?_⟩) ?_ ?_
              rotate_left
              · intro w'
                go_simp
                with_reducible rfl
              rotate_left
              · simp only [Act.put, List.setIfInBounds_toArray, List.set_cons_zero, List.set_cons_succ, i64_w, i32_w]
                rfl
              refine pure_ (i := 2) (N := some 80) (v := ?_) (a' := ?_) #[true, false, true, false, false, false, false, false, false, false, false, false, false] rfl rfl (any_of HT_.out (by kernel_rfl)) (fun _ _ _ h => h) (Or.inl ⟨by rfl, ?_⟩) ?_ ?_
              rotate_left
              · intro w'
                go_simp
                with_reducible rfl
              rotate_left
              · simp only [Act.put, List.setIfInBounds_toArray, List.set_cons_zero, List.set_cons_succ, i64_w, i32_w]
                rfl
              refine pure_ (i := 3) (N := some 81) (v := ?_) (a' := ?_) #[true, false, true, true, false, false, false, false, false, false, false, false, false] rfl rfl (any_of HT_.out (by kernel_rfl)) (fun _ _ _ h => h) (Or.inl ⟨by rfl, ?_⟩) ?_ ?_
              rotate_left
              · intro w'
                go_simp
                with_reducible rfl
              rotate_left
              · simp only [Act.put, List.setIfInBounds_toArray, List.set_cons_zero, List.set_cons_succ, i64_w, i32_w]
                rfl
              refine pure_ (i := 5) (N := some 83) (v := ?_) (a' := ?_) #[true, false, true, true, false, true, false, false, false, false, false, false, false] rfl rfl (any_of HT_.out (by kernel_rfl)) (fun _ _ _ h => h) (Or.inl ⟨by rfl, ?_⟩) ?_ ?_
              rotate_left
              · intro w'
                go_simp
                with_reducible rfl
              rotate_left
              · simp only [Act.put, List.setIfInBounds_toArray, List.set_cons_zero, List.set_cons_succ, i64_w, i32_w]
                rfl
              refine take_ (i := 1) (N := some 79) (v := ?_) (a' := ?_) #[true, true, true, true, false, true, false, false, false, false, false, false, false] rfl rfl (take_ofW HT_.out HW_.out (by kernel_rfl)) (fun _ _ _ h => h) (Or.inl ⟨by rfl, ?_⟩) hHeld ?_ ?_
              rotate_left
              · rintro w' ⟨s0, s1, s2⟩
                go_simp
                with_reducible rfl
              rotate_left
              · simp only [Act.put, List.setIfInBounds_toArray, List.set_cons_zero, List.set_cons_succ, i64_w, i32_w]
                rfl
              refine take_ (i := 4) (N := some 82) (v := ?_) (a' := ?_) #[true, true, true, true, true, true, false, false, false, false, false, false, false] rfl rfl (take_ofW HT_.out HW_.out (by kernel_rfl)) (fun _ _ _ h => h) (Or.inl ⟨by rfl, ?_⟩) hHeld ?_ ?_
              rotate_left
              · rintro w' ⟨s0, s1, s2⟩
                go_simp
                with_reducible rfl
              rotate_left
              · simp only [Act.put, List.setIfInBounds_toArray, List.set_cons_zero, List.set_cons_succ, i64_w, i32_w]
                rfl
              refine pure_ (i := 6) (N := some 84) (v := ?_) (a' := ?_) #[true, true, true, true, true, true, true, false, false, false, false, false, false] rfl rfl (any_of HT_.out (by kernel_rfl)) (fun _ _ _ h => h) (Or.inl ⟨by rfl, ?_⟩) ?_ ?_
              rotate_left
              · intro w'
                go_simp
                with_reducible rfl
              rotate_left
              · simp only [Act.put, List.setIfInBounds_toArray, List.set_cons_zero, List.set_cons_succ, i64_w, i32_w]
                rfl
              refine take_ (i := 7) (N := some 85) (v := ?_) (a' := ?_) #[true, true, true, true, true, true, true, true, false, false, false, false, false] rfl rfl (take_ofW HT_.out HW_.out (by kernel_rfl)) (fun _ _ _ h => h) (Or.inl ⟨by rfl, ?_⟩) hHeld ?_ ?_
              rotate_left
              · rintro w' ⟨s0, s1, s2⟩
                go_simp
                with_reducible rfl
              rotate_left
              · simp only [Act.put, List.setIfInBounds_toArray, List.set_cons_zero, List.set_cons_succ, i64_w, i32_w]
                rfl
              refine take_ (i := 8) (N := some 86) (v := ?_) (a' := ?_) #[true, true, true, true, true, true, true, true, true, false, false, false, false] rfl rfl (take_ofW HT_.out HW_.out (by kernel_rfl)) (fun _ _ _ h => h) (Or.inl ⟨by rfl, ?_⟩) hHeld ?_ ?_
              rotate_left
              · rintro w' ⟨s0, s1, s2⟩
                go_simp
                with_reducible rfl
              rotate_left
              · simp only [Act.put, List.setIfInBounds_toArray, List.set_cons_zero, List.set_cons_succ, i64_w, i32_w]
                rfl
              have HST8 := Aside0.mk (HST7.out.below HB8.out)
              have HBX8 := Aside0.mk (HBX7.out.to (Kept.of_below HB8.out _) (fun _ h => .inl h))
              have HBL8 := Aside0.mk (show Below B wr w8 from HBL7.out.trans (HB8.out.mono (by have h1 := HST7.out.rowsAt.2.1; have h2 := HST7.out.rowsAt.lt; omega)))
              have HC8 := Aside0.mk hHeld
              refine one_ (i := 9) (N := some 87) #[true, true, true, true, true, true, true, true, true, true, false, false, false] rfl rfl (one_of HT_.out (by kernel_rfl)) (by decide) (fun K hK => ?_)
              refine value_ (w1 := ?_) (v := ?_) (by rfl) rfl ?_ ?_
              rotate_left 2
              · go_simp
                constructor
                · rfl
                · rfl
              refine hK.out _ _ ⟨(blk_cell (blk_alloc HBX8.out.ht _) 1).trans rfl, (Below.cell (below_alloc (Below.refl _ _) _) HST8.out.rowsAt.lt).trans HC8.out.2.1, (blk_cell (blk_alloc HBX8.out.hk _) 0).trans rfl⟩ (fun hHeld => ?_)
              clear hK K
              refine norm_ (a' := ?_) ?_ ?_
              rotate_left
              · show Act.put _ (some 87) _ = _
                simp only [Act.put, List.setIfInBounds_toArray, List.set_cons_zero, List.set_cons_succ, i64_w, i32_w]
                rfl
              refine one_ (i := 10) (N := some 88) #[true, true, true, true, true, true, true, true, true, true, true, false, false] rfl rfl (one_of HT_.out (by kernel_rfl)) (by decide) (fun K hK => ?_)
              refine Kd.R_append_step (Kd.int .i64) (w0 := w8) B (by rfl) (.tmp 85) (.tmp 87) 24 3 (.int .i64 0) 8 rfl Tryz.underlying24 HINF.out rfl (by decide) (by omega) (.slice A9 xs.length c9) xs k [.int .i64 k] (fun _ => True) (fun _ => False) rfl rfl ?aP ?aK ?aF ?aO ?aB ?aS ?aL ?_
              (case aP => rfl)
              (case aK => exact fun _ h => h.elim)
              (case aF => exact fun _ _ => trivial)
              (case aO => exact Kd.R_below (Kd.R_of_own HOWN9.out (fun _ _ => trivial)) HB8.out)
              (case aB => exact Below.refl _ _)
              (case aS => have h1 := HST8.out.rowsAt.2.1; have h2 := HST8.out.rowsAt.lt; omega)
              (case aL => omega)
              intro v11 w11 hR11 hb11 hg11 hat11
              have hgv : some gR ≠ (Value.slice A9 xs.length c9).ownBlock := fun e => (HBLK9.out gR e.symm).2 rfl
              obtain ⟨ys, hys⟩ : ∃ ys, ys = xs ++ [k] := ⟨_, rfl⟩
              rw [← hys] at hR11
              have HYS := Aside0.mk hys
              clear hys
              obtain ⟨T12, hst12, hk12, hM12, hb12⟩ := HST8.out.put i (by rw [HRL.out]; exact HILT) HC8.out.2.1 (fun k hk => (HBLK9.out k hk).1) hg11 hb11 (Kd.own_of_R hR11) hat11
              obtain ⟨A11, n11, c11, hv11⟩ : ∃ A n c, v11 = .slice A n c := (by obtain ⟨A, c, h⟩ := Kd.R_slice hR11; exact ⟨A, _, c, h⟩)
              subst hv11
              have HGR := Aside0.mk (hg11.block gR HST8.out.rowsAt.lt hgv)
              have HC11 := Aside0.mk ((World.cell?_of_block (w := w8) (w' := w11) (a := ⟨gR, i, none⟩) HGR.out).trans HC8.out.2.1)
              have HF11 := Aside0.mk (show w11.frozen? ⟨gR, i, none⟩ = false from by
                obtain ⟨_, _, vs, _, hh, _⟩ := HST8.out.rowsAt
                exact blk_frozen (HGR.out.trans hh) i)
              have HST12 := Aside0.mk hst12
              have HK12 := Aside0.mk ((Kept.of_below (below_step HB7.out HB8.out) _).then_ hk12 (fun _ h => .inl h))
              have HM12 := Aside0.mk (fun k h => (hM12 k h).imp id (Nat.le_trans (below_step HB7.out HB8.out).size))
              have HBL12 := Aside0.mk (HBL8.out.trans hb12)
              refine hK.out _ _ ⟨(blk_cell (blk_grown HBX8.out.ht hg11 (HNV.out _ HBX8.out.hnt)) 1).trans rfl, HC11.out, (blk_cell (blk_grown HBX8.out.hk hg11 (HNV.out _ HBX8.out.hnk)) 0).trans rfl⟩ (fun hHeld => ?_)
              clear hK K hst12 hk12 hM12 hb12 hR11 hb11 hg11 hat11 hgv
              refine norm_ (a' := ?_) ?_ ?_
              rotate_left
              · show Act.put _ (some 88) _ = _
                simp only [Act.put, List.setIfInBounds_toArray, List.set_cons_zero, List.set_cons_succ, i64_w, i32_w]
                rfl
              refine pure_ (i := 11) (N := some 89) (v := ?_) (a' := ?_) #[true, true, true, true, true, true, true, true, true, true, true, true, false] rfl rfl (any_of HT_.out (by kernel_rfl)) (fun _ _ _ h => h) (Or.inl ⟨by rfl, ?_⟩) ?_ ?_
              rotate_left
              · intro w'
                go_simp
                with_reducible rfl
              rotate_left
              · simp only [Act.put, List.setIfInBounds_toArray, List.set_cons_zero, List.set_cons_succ, i64_w, i32_w]
                rfl
              refine last_ (i := 12) (N := none) #[true, true, true, true, true, true, true, true, true, true, true, true, true] rfl rfl (one_of HT_.out (by kernel_rfl)) (by decide) (fun K hK => ?_)
              have hs12 := HC11.out
              have hf12 := HF11.out
              refine skip_ (w1 := ?_) (by rfl) rfl ?_ ?_
              rotate_left
              · go_simp
                rfl
              refine hK.out _ _ ?_
              clear hK K hs12 hf12
              refine done_ (done_of HT_.out (by kernel_rfl)) ?_
              generalize w11.setCell ⟨gR, i, none⟩ (.slice A11 n11 c11) = w12 at HST12 HK12 HM12 HBL12 ⊢
              have HBX12 := Aside0.mk (HB1.out.to HK12.out HM12.out)
              have xp := (blk_cell HBX12.out.hp 0).trans rfl
              have hlfb : 1 ≤ lf ∧ lf ≤ 1000 := by
                have h1 := HLF.out
                have h2 := HRS.out (rows.getD i []) (by have : i < rows.length := by rw [HRL.out]; exact HILT
                                                        simp [List.getD, this])
                omega
              have HL1 := Aside0.mk (show lf - 1 = (left : Int) from by have h1 := HLF.out; omega)
              have HCALL := Aside0.mk (IH.out i (rows.set i ys) (ts ++ ((List.range' row (i - row)).flatMap (impl_grow.step (fun rows => Gr.growL outer inner ws rows (k + 1)) outer inner k left rows)).map (fun r => ⟨inner, r⟩)) T12 O1 w12 HST12.out (by rw [List.length_set]; exact HRL.out) (Nat.le_of_lt HILT)
                (by rw [HYS.out, HXS.out]; exact impl_grow.bound_set HRS.out (by rw [HRL.out]; exact HILT))
                (by have h1 := HTS.out
                    have h2 := impl_grow.acc_le (impl_grow.step (fun rows => Gr.growL outer inner ws rows (k + 1)) outer inner k left rows) row i outer.length HI.out.1 HILT
                    rw [HS.out] at h2
                    rw [HYS.out, HXS.out, List.length_append, List.length_map]
                    have h3 : (Gr.putL (fun rows => Gr.growL outer inner ws rows (k + 1)) outer inner k (left + 1) rows row) = (List.range' row (outer.length - row)).flatMap (impl_grow.step (fun rows => Gr.growL outer inner ws rows (k + 1)) outer inner k left rows) := rfl
                    rw [h3] at h1
                    omega)
                (HAo1.out.to HK12.out HM12.out) (HAi1.out.to HK12.out HM12.out) (HAt1.out.to HK12.out HM12.out) (HAw1.out.to HK12.out HM12.out) HBX12.out)
              go_wp2_with (go_at_call 206; rw [HL1.out]; refine HCALL.out.mono ?_; rintro e w13 ⟨rfl, hD13⟩; have HD13 := Aside0.mk hD13; clear hD13)
              obtain ⟨T13, O13, hst13, hk13, hM13, hb13⟩ := HD13.out
              have HST13 := Aside0.mk hst13
              have HK13 := Aside0.mk (HK12.out.then_ hk13 HM12.out)
              have HM13 := Aside0.mk (fun k h => (hM13 k h).elim (HM12.out k) (fun h => .inr (Nat.le_trans HK12.out.1 h)))
              have HBL13 := Aside0.mk (HBL12.out.trans hb13)
              have HBX13 := Aside0.mk (HBX12.out.to hk13 hM13)
              clear hst13 hk13 hM13 hb13 HD13 xp HCALL
              obtain ⟨A14, c14, hcr14, hown14, hblk14⟩ := HST13.out.rowsAt.row i (by rw [List.length_set, HRL.out]; exact HILT)
              have hysl : ys.length = xs.length + 1 := by rw [HYS.out]; simp
              rw [impl_grow.getD_set rows i ys (by rw [HRL.out]; exact HILT), hysl] at hcr14 hown14 hblk14
              have HOWN14 := Aside0.mk hown14
              have HBLK14 := Aside0.mk hblk14
              have HYL := Aside0.mk hysl
              clear hown14 hblk14 hysl
              have hsl : ∀ W, Sem.run Tryz.prog (Instr.slice 24 (.slice A14 (xs.length + 1) c14) none (some (.int .i64 (xs.length : Int))) none) W = .ok (.slice A14 xs.length c14) W := impl_grow.cutrun HINF.out Tryz.underlying24 HYL.out HOWN14.out
              have HSL := Aside0.mk hsl
              clear hsl
              have xt1 := (blk_cell HBX13.out.ht 1).trans rfl
              refine start_ (n := 18) (S := fun w' => w'.cell? ⟨bt, 1, none⟩ = some (.slice (some ⟨gR, 0, none⟩) outer.length outer.length) ∧ w'.cell? ⟨gR, i, none⟩ = some (.slice A14 (xs.length + 1) c14)) (ds := [17]) #[false, false, false, false, false, false, false, false, false, false, false, false, false, false, false, false, false, false] (by kernel_rfl) rfl rfl (⟨xt1, hcr14⟩) (fun hHeld => ?_); refine with_tabW impl_tableaux.tab206_11 impl_tableaux.bits206_11 (fun HT_ HW_ => ?_)
              have HB14 := Aside0.mk (show Below w13.heap.size w13 w13.drew from (Below.refl _ _).drew)
              generalize w13.drew = w14 at HB14 hHeld ⊢
              clear xt1 hcr14
              have HC14 := Aside0.mk hHeld
              refine pure_ (i := 0) (N := some 95) (v := ?_) (a' := ?_) #[true, false, false, false, false, false, false, false, false, false, false, false, false, false, false, false, false, false] rfl rfl (any_of HT_.out (by kernel_rfl)) (fun _ _ _ h => h) (Or.inl ⟨by rfl, ?_⟩) ?_ ?_
              rotate_left
              · intro w'
                go_simp
                with_reducible rfl
              rotate_left
              · simp only [Act.put, List.setIfInBounds_toArray, List.set_cons_zero, List.set_cons_succ, i64_w, i32_w]
                rfl
              refine pure_ (i := 2) (N := some 97) (v := ?_) (a' := ?_) #[true, false, true, false, false, false, false, false, false, false, false, false, false, false, false, false, false, false] rfl rfl (any_of HT_.out (by kernel_rfl)) (fun _ _ _ h => h) (Or.inl ⟨by rfl, ?_⟩) ?_ ?_
              rotate_left
              · intro w'
                go_simp
                with_reducible rfl
              rotate_left
              · simp only [Act.put, List.setIfInBounds_toArray, List.set_cons_zero, List.set_cons_succ, i64_w, i32_w]
                rfl
              refine pure_ (i := 3) (N := some 98) (v := ?_) (a' := ?_) #[true, false, true, true, false, false, false, false, false, false, false, false, false, false, false, false, false, false] rfl rfl (any_of HT_.out (by kernel_rfl)) (fun _ _ _ h => h) (Or.inl ⟨by rfl, ?_⟩) ?_ ?_
              rotate_left
              · intro w'
                go_simp
                with_reducible rfl
              rotate_left
              · simp only [Act.put, List.setIfInBounds_toArray, List.set_cons_zero, List.set_cons_succ, i64_w, i32_w]
                rfl
              refine pure_ (i := 5) (N := some 100) (v := ?_) (a' := ?_) #[true, false, true, true, false, true, false, false, false, false, false, false, false, false, false, false, false, false] rfl rfl (any_of HT_.out (by kernel_rfl)) (fun _ _ _ h => h) (Or.inl ⟨by rfl, ?_⟩) ?_ ?_
              rotate_left
              · intro w'
                go_simp
                with_reducible rfl
              rotate_left
              · simp only [Act.put, List.setIfInBounds_toArray, List.set_cons_zero, List.set_cons_succ, i64_w, i32_w]
                rfl
              refine pure_ (i := 8) (N := some 103) (v := ?_) (a' := ?_) #[true, false, true, true, false, true, false, false, true, false, false, false, false, false, false, false, false, false] rfl rfl (any_of HT_.out (by kernel_rfl)) (fun _ _ _ h => h) (Or.inl ⟨by rfl, ?_⟩) ?_ ?_
              rotate_left
              · intro w'
                go_simp
                with_reducible rfl
              rotate_left
              · simp only [Act.put, List.setIfInBounds_toArray, List.set_cons_zero, List.set_cons_succ, i64_w, i32_w]
                rfl
              refine pure_ (i := 10) (N := some 105) (v := ?_) (a' := ?_) #[true, false, true, true, false, true, false, false, true, false, true, false, false, false, false, false, false, false] rfl rfl (any_of HT_.out (by kernel_rfl)) (fun _ _ _ h => h) (Or.inl ⟨by rfl, ?_⟩) ?_ ?_
              rotate_left
              · intro w'
                go_simp
                with_reducible rfl
              rotate_left
              · simp only [Act.put, List.setIfInBounds_toArray, List.set_cons_zero, List.set_cons_succ, i64_w, i32_w]
                rfl
              refine take_ (i := 1) (N := some 96) (v := ?_) (a' := ?_) #[true, true, true, true, false, true, false, false, true, false, true, false, false, false, false, false, false, false] rfl rfl (take_ofW HT_.out HW_.out (by kernel_rfl)) (fun _ _ _ h => h) (Or.inl ⟨by rfl, ?_⟩) hHeld ?_ ?_
              rotate_left
              · rintro w' ⟨s0, s1⟩
                go_simp
                with_reducible rfl
              rotate_left
              · simp only [Act.put, List.setIfInBounds_toArray, List.set_cons_zero, List.set_cons_succ, i64_w, i32_w]
                rfl
              refine take_ (i := 4) (N := some 99) (v := ?_) (a' := ?_) #[true, true, true, true, true, true, false, false, true, false, true, false, false, false, false, false, false, false] rfl rfl (take_ofW HT_.out HW_.out (by kernel_rfl)) (fun _ _ _ h => h) (Or.inl ⟨by rfl, ?_⟩) hHeld ?_ ?_
              rotate_left
              · rintro w' ⟨s0, s1⟩
                go_simp
                with_reducible rfl
              rotate_left
              · simp only [Act.put, List.setIfInBounds_toArray, List.set_cons_zero, List.set_cons_succ, i64_w, i32_w]
                rfl
              refine take_ (i := 9) (N := some 104) (v := ?_) (a' := ?_) #[true, true, true, true, true, true, false, false, true, true, true, false, false, false, false, false, false, false] rfl rfl (take_ofW HT_.out HW_.out (by kernel_rfl)) (fun _ _ _ h => h) (Or.inl ⟨by rfl, ?_⟩) hHeld ?_ ?_
              rotate_left
              · rintro w' ⟨s0, s1⟩
                go_simp
                with_reducible rfl
              rotate_left
              · simp only [Act.put, List.setIfInBounds_toArray, List.set_cons_zero, List.set_cons_succ, i64_w, i32_w]
                rfl
              refine pure_ (i := 6) (N := some 101) (v := ?_) (a' := ?_) #[true, true, true, true, true, true, true, false, true, true, true, false, false, false, false, false, false, false] rfl rfl (any_of HT_.out (by kernel_rfl)) (fun _ _ _ h => h) (Or.inl ⟨by rfl, ?_⟩) ?_ ?_
              rotate_left
              · intro w'
                go_simp
                with_reducible rfl
              rotate_left
              · simp only [Act.put, List.setIfInBounds_toArray, List.set_cons_zero, List.set_cons_succ, i64_w, i32_w]
                rfl
              refine pure_ (i := 11) (N := some 106) (v := ?_) (a' := ?_) #[true, true, true, true, true, true, true, false, true, true, true, true, false, false, false, false, false, false] rfl rfl (any_of HT_.out (by kernel_rfl)) (fun _ _ _ h => h) (Or.inl ⟨by rfl, ?_⟩) ?_ ?_
              rotate_left
              · intro w'
                go_simp
                with_reducible rfl
              rotate_left
              · simp only [Act.put, List.setIfInBounds_toArray, List.set_cons_zero, List.set_cons_succ, i64_w, i32_w]
                rfl
              refine take_ (i := 7) (N := some 102) (v := ?_) (a' := ?_) #[true, true, true, true, true, true, true, true, true, true, true, true, false, false, false, false, false, false] rfl rfl (take_ofW HT_.out HW_.out (by kernel_rfl)) (fun _ _ _ h => h) (Or.inl ⟨by rfl, ?_⟩) hHeld ?_ ?_
              rotate_left
              · rintro w' ⟨s0, s1⟩
                go_simp
                with_reducible rfl
              rotate_left
              · simp only [Act.put, List.setIfInBounds_toArray, List.set_cons_zero, List.set_cons_succ, i64_w, i32_w]
                rfl
              refine take_ (i := 12) (N := some 107) (v := ?_) (a' := ?_) #[true, true, true, true, true, true, true, true, true, true, true, true, true, false, false, false, false, false] rfl rfl (take_ofW HT_.out HW_.out (by kernel_rfl)) (fun _ _ _ h => h) (Or.inl ⟨by rfl, ?_⟩) hHeld ?_ ?_
              rotate_left
              · rintro w' ⟨s0, s1⟩
                go_simp
                with_reducible rfl
              rotate_left
              · simp only [Act.put, List.setIfInBounds_toArray, List.set_cons_zero, List.set_cons_succ, i64_w, i32_w]
                rfl
              have hwx : wrap64 (xs.length : Int) = (xs.length : Int) := impl_grow.w64 _ (by omega) (by omega)
              refine pure_ (i := 13) (N := some 108) (v := ?_) (a' := ?_) #[true, true, true, true, true, true, true, true, true, true, true, true, true, true, false, false, false, false] rfl rfl (any_of HT_.out (by kernel_rfl)) (fun _ _ _ h => h) (Or.inl ⟨by rfl, ?_⟩) ?_ ?_
              rotate_left
              · intro w'
                go_simp
                with_reducible rfl
              rotate_left
              · simp only [Act.put, List.setIfInBounds_toArray, List.set_cons_zero, List.set_cons_succ, i64_w, i32_w]
                rfl
              refine pure_ (i := 14) (N := some 109) (v := ?_) (a' := ?_) #[true, true, true, true, true, true, true, true, true, true, true, true, true, true, true, false, false, false] rfl rfl (any_of HT_.out (by kernel_rfl)) (fun _ _ _ h => h) (Or.inl ⟨by rfl, ?_⟩) ?_ ?_
              rotate_left
              · intro w'
                go_simp
                with_reducible rfl
              rotate_left
              · simp only [Act.put, List.setIfInBounds_toArray, List.set_cons_zero, List.set_cons_succ, i64_w, i32_w]
                rfl
              rw [hwx]
              have hsl := HSL.out
              refine pure_ (i := 15) (N := some 110) (v := ?_) (a' := ?_) #[true, true, true, true, true, true, true, true, true, true, true, true, true, true, true, true, false, false] rfl rfl (any_of HT_.out (by kernel_rfl)) (fun _ _ _ h => h) (Or.inl ⟨by rfl, ?_⟩) ?_ ?_
              rotate_left
              · intro w'
                go_simp
                with_reducible rfl
              rotate_left
              · simp only [Act.put, List.setIfInBounds_toArray, List.set_cons_zero, List.set_cons_succ, i64_w, i32_w]
                rfl
              refine pure_ (i := 16) (N := some 111) (v := ?_) (a' := ?_) #[true, true, true, true, true, true, true, true, true, true, true, true, true, true, true, true, true, false] rfl rfl (any_of HT_.out (by kernel_rfl)) (fun _ _ _ h => h) (Or.inl ⟨by rfl, ?_⟩) ?_ ?_
              rotate_left
              · intro w'
                go_simp
                with_reducible rfl
              rotate_left
              · simp only [Act.put, List.setIfInBounds_toArray, List.set_cons_zero, List.set_cons_succ, i64_w, i32_w]
                rfl
              clear hwx
              refine last_ (i := 17) (N := none) #[true, true, true, true, true, true, true, true, true, true, true, true, true, true, true, true, true, true] rfl rfl (one_of HT_.out (by kernel_rfl)) (by decide) (fun K hK => ?_)
              have HST14 := Aside0.mk (HST13.out.below HB14.out)
              have hs17 := HC14.out.2
              have hf17 : w14.frozen? ⟨gR, i, none⟩ = false := (by
                obtain ⟨_, _, vs, _, hh, _⟩ := HST14.out.rowsAt
                exact blk_frozen hh i)
              obtain ⟨T15, hst15, hk15, hM15, hb15⟩ := HST14.out.put i (by rw [List.length_set, HRL.out]; exact HILT) HC14.out.2 (fun k hk => (HBLK14.out k hk).1) (World.grownBy.refl w14 _) (Below.refl _ _) (v1 := .slice A14 xs.length c14) (ys := xs) (impl_grow.own_cut (by rw [HYS.out]) HYL.out (own_move HOWN14.out (fun k hk => HB14.out.block k (own_lt HOWN14.out k hk)))) (.inl (impl_grow.own_same _ _ _ _))
              have HST15 := Aside0.mk hst15
              have HK15 := Aside0.mk hk15
              have HM15 := Aside0.mk hM15
              have HBL15 := Aside0.mk hb15
              clear hst15 hk15 hM15 hb15
              refine skip_ (w1 := ?_) (by rfl) rfl ?_ ?_
              rotate_left
              · go_simp
                rfl
              refine hK.out _ _ ?_
              clear hK K hs17 hf17
              refine done_ (done_of HT_.out (by kernel_rfl)) ?_
              go_wp2
              go_roundg g1
              case measure => exact Nat.lt_succ_self _
              case rel => exact ⟨i + 1, congrArg (Value.int .i64) (show (i : Int) + 1 = ((i + 1 : Nat) : Int) from (Int.natCast_succ i).symm), ⟨impl_grow.next HI.out HILT⟩, ⟨by
                have hst := HST15.out
                rw [impl_grow.set_back rows i ys xs HXS.out (by rw [HRL.out]; exact HILT)] at hst
                rw [impl_grow.acc _ _ _ HI.out.1, HS.out, List.map_append, ← List.append_assoc, ← HXS.out, ← HYS.out]
                have hk14 := HK13.out.below HB14.out
                have hb14 := HBL13.out.trans (HB14.out.mono (show B ≤ w13.heap.size by have h1 := HST13.out.rowsAt.2.1; have h2 := HST13.out.rowsAt.lt; omega))
                exact impl_grow.Done.from_ HK1.out HM1.out HBL1.out ⟨T15, O13, hst, hk14.then_ HK15.out HM13.out, fun k h => (HM15.out k h).elim (HM13.out k) (fun h => .inr (Nat.le_trans hk14.1 h)), hb14.trans HBL15.out⟩⟩⟩
      · have hE : i = outer.length := by have := HI.out; omega
        subst hE
        go_wp2
        go_end0
        exact ⟨rfl, T1, O1, HST1.out, HK1.out, HM1.out, HBL1.out⟩
theorem impl_grow.own_loop (rows : List (List Int)) (hr : rows.length ≤ 1000) (hrs : ∀ r ∈ rows, r.length ≤ 1000) (r1 : List Int) : ∀ (m i : Nat), i + m = rows.length → impl_Tableau_own.l0 (m + 1) rows (rows.length : Int) (i : Int) r1 (rows.take i) = some (r1, rows) := by
  intro m
  induction m with
  | zero =>
    intro i hi
    unfold impl_Tableau_own.l0
    rw [if_neg (by omega), List.take_of_length_le (by omega)]
  | succ m ih =>
    intro i hi
    have hlt : i < rows.length := by omega
    have hrd : rd_L3 rows (i : Int) = rows[i] := by simp [rd_L3, List.getD, hlt]
    unfold impl_Tableau_own.l0
    rw [if_pos (by omega), if_pos (by omega), if_pos (by omega), hrd]
    unfold slices_Clone_int_int.f
    have := hrs rows[i] (List.getElem_mem hlt)
    rw [if_pos (by omega), Option.bind_some, if_pos (by rw [List.length_take]; omega), impl_grow.w64 _ (by omega) (by omega)]
    have h := ih (i + 1) (by omega)
    rw [List.take_succ_eq_append_getElem hlt] at h
    exact h
theorem impl_grow.own_eq (inner : List Int) (rows : List (List Int)) (hi : inner.length ≤ 1000) (hr : rows.length ≤ 1000) (hrs : ∀ r ∈ rows, r.length ≤ 1000) : impl_Tableau_own.f (rows.length + 1) inner rows = some (inner, rows) := by
  unfold impl_Tableau_own.f slices_Clone_int_int.f
  rw [if_pos (by omega)]
  exact impl_grow.own_loop rows hr hrs inner rows.length 0 (by omega)
theorem impl_grow.S_some {α : Type} {d : Kd α} {e base : Nat} {w : World} {ok : Nat → Prop} {v : Value} {xs : List α} (h : Kd.S d e w base ok v xs) (hx : 0 < xs.length) : v.ownBlock ≠ none := by
  obtain ⟨ad, c, rfl⟩ := Kd.R_slice1 (Kd.S_R h) hx
  simp [Value.ownBlock]
def impl_tableaux.T187_2 : Bool × List (List Nat × List Nat) := (true, [([], []), ([], []), ([1], [1]), ([0, 2, 2], [0, 2])])
def impl_tableaux.B187_2 : List Nat := [0, 0, 2, 7]
theorem impl_tableaux.tab187_2 : rtab .any (opsOf Tryz.f187 2) = impl_tableaux.T187_2 := by kernel_rfl
theorem impl_tableaux.bits187_2 : waitsOk impl_tableaux.T187_2.2 impl_tableaux.B187_2 = true := by kernel_rfl
def impl_tableaux.T187_5 : Bool × List (List Nat × List Nat) := (true, [([], []), ([], []), ([1], [1]), ([2], [2]), ([0, 3], [0, 3])])
def impl_tableaux.B187_5 : List Nat := [0, 0, 2, 6, 15]
theorem impl_tableaux.tab187_5 : rtab .any (opsOf Tryz.f187 5) = impl_tableaux.T187_5 := by kernel_rfl
theorem impl_tableaux.bits187_5 : waitsOk impl_tableaux.T187_5.2 impl_tableaux.B187_5 = true := by kernel_rfl
set_option maxHeartbeats 4000000 in
set_option maxRecDepth 100000 in
theorem impl_grow.nil_ok (B go gR : Nat) (outer inner : List Int) (Ao Ai At : Option Addr) (co ci ct : Nat) (hct : inner.length ≤ ct) (hlo : outer.length ≤ 1000) (hli : inner.length ≤ 1000) : impl_grow.Ok B go gR outer inner Ao Ai At co ci ct [] := by
  intro k rows ts T O w Aw cw hst hrl hrs hk0 hk1 hts hAo hAi hAt hAw hcw
  have hu38 := Tryz.underlying74
  have hu56 := Tryz.underlying79
  have HST := Aside0.mk hst
  have HAt := Aside0.mk hAt
  have HRS := Aside0.mk hrs
  have HTS := Aside0.mk hts
  have HRL := Aside0.mk hrl
  clear hst hAo hAi hAt hAw hrs hts hrl
  go_enter Tryz.func187, Tryz.ntmps187
  go_wp2_with (first
    | ((with_reducible refine gate_dst (N := 5) rfl ?_); refine box_event ?hg (N := 5) ?hd (cs := #[.slice Ao outer.length co, .slice Ai inner.length ci]) (t := 74) ?hr ?_; (case hd => rfl); (case hg => rfl); (case hr => first | (go_simp; done) | (go_simp; rfl)); intro g5 h5 w5 hb5 hl5; have L5 := Aside0.mk hl5; clear hb5 hl5 h5)
    | ((with_reducible refine gate_dst (N := 6) rfl ?_); refine box_event ?hg (N := 6) ?hd (cs := #[.slice At inner.length ct, .slice (some ⟨gR, 0, none⟩) outer.length outer.length]) (t := 79) ?hr ?_; (case hd => rfl); (case hg => rfl); (case hr => first | (go_simp; done) | (go_simp; rfl)); intro g6 h6 w6 hb6 hl6; have B6 := Aside0.mk hb6; have L6 := Aside0.mk (below_step L5.out hl6); clear hb6 hl6 h6)
    | ((with_reducible refine gate_dst (N := 7) rfl ?_); refine box_event ?hg (N := 7) ?hd (cs := #[.int .i64 k]) (t := 3) ?hr ?_; (case hd => rfl); (case hg => rfl); (case hr => first | (go_simp; done) | (go_simp; rfl)); intro g7 h7 w7 hb7 hl7; have L7 := Aside0.mk (below_step L6.out hl7); have B67 := Aside0.mk (blk_below B6.out hl7); clear hb7 hl7 h7)
    | ((with_reducible refine gate_dst (N := 8) rfl ?_); refine box_event ?hg (N := 8) ?hd (cs := #[.slice Aw 0 cw]) (t := 24) ?hr ?_; (case hd => rfl); (case hg => rfl); (case hr => first | (go_simp; done) | (go_simp; rfl)); intro g8 h8 w8 hb8 hl8; have L8 := Aside0.mk (below_step L7.out hl8); have B68 := Aside0.mk (blk_below B67.out hl8); have B88 := Aside0.mk hb8; clear hb8 hl8 h8)
    | ((with_reducible refine gate_dst (N := 9) rfl ?_); refine box_event ?hg (N := 9) ?hd (cs := #[.func (.func 188) #[] #[.pointer (some ⟨go, 0, none⟩)]]) (t := 148) ?hr ?_; (case hd => rfl); (case hg => rfl); (case hr => first | (go_simp; done) | (go_simp; rfl)); intro g9 h9 w9 hb9 hl9; have L9 := Aside0.mk (below_step L8.out hl9); have B69 := Aside0.mk (blk_below B68.out hl9); have B99 := Aside0.mk hb9; have x8 := (blk_cell (blk_below B88.out hl9) 0).trans rfl; clear hb9 hl9 h9))
  clear x8
  refine start_ (n := 4) (S := fun w' => w'.cell? ⟨g9, 0, none⟩ = some (.func (.func 188) #[] #[.pointer (some ⟨go, 0, none⟩)]) ∧ w'.cell? ⟨g6, 0, none⟩ = some (.slice At inner.length ct) ∧ w'.cell? ⟨g6, 1, none⟩ = some (.slice (some ⟨gR, 0, none⟩) outer.length outer.length)) (ds := [3]) #[false, false, false, false] (by kernel_rfl) rfl rfl (⟨(blk_cell B99.out 0).trans rfl, (blk_cell B69.out 0).trans rfl, (blk_cell B69.out 1).trans rfl⟩) (fun hHeld => ?_); refine with_tabW impl_tableaux.tab187_2 impl_tableaux.bits187_2 (fun HT_ HW_ => ?_)
  have LA := Aside0.mk (show Below w.heap.size w w9.drew from L9.out.drew)
  have BA6 := Aside0.mk (blk_drew B69.out)
  have BA9 := Aside0.mk (blk_drew B99.out)
  generalize w9.drew = wa at LA BA6 BA9 hHeld ⊢
  refine take_ (i := 0) (N := some 14) (v := ?_) (a' := ?_) #[true, false, false, false] rfl rfl (take_ofW HT_.out HW_.out (by kernel_rfl)) (fun _ _ _ h => h) (Or.inl ⟨by rfl, ?_⟩) hHeld ?_ ?_
  rotate_left
  · rintro w' ⟨s0, s1, s2⟩
    go_simp
    with_reducible rfl
  rotate_left
  · simp only [Act.put, List.setIfInBounds_toArray, List.set_cons_zero, List.set_cons_succ, i64_w, i32_w]
    rfl
  refine take_ (i := 1) (N := some 15) (v := ?_) (a' := ?_) #[true, true, false, false] rfl rfl (take_ofW HT_.out HW_.out (by kernel_rfl)) (fun _ _ _ h => h) (Or.inl ⟨by rfl, ?_⟩) hHeld ?_ ?_
  rotate_left
  · rintro w' ⟨s0, s1, s2⟩
    go_simp
    with_reducible rfl
  rotate_left
  · simp only [Act.put, List.setIfInBounds_toArray, List.set_cons_zero, List.set_cons_succ, i64_w, i32_w]
    rfl
  have HSTA := Aside0.mk (HST.out.below LA.out)
  refine one_ (i := 2) (N := some 16) #[true, true, true, false] rfl rfl (one_of HT_.out (by kernel_rfl)) (by decide) (fun K hK => ?_)
  refine goes_ Tryz.func205 (by kernel_rfl) rfl #[.agg #[.slice At inner.length ct, .slice (some ⟨gR, 0, none⟩) outer.length outer.length]] (by rfl) rfl rfl (by (try simp only [List.map_toArray, List.map_cons, List.map_nil]); rfl) ?_
  have hown := impl_Tableau_own.calls (rows.length + 1) At ct inner (some ⟨gR, 0, none⟩) outer.length rows inner rows wa (HAt.out _ (Kept.of_below LA.out _)) hct (HSTA.out.rowsAt.reads (by rw [HRL.out]; omega)) (by rw [HRL.out]; exact Nat.le_refl _) (impl_grow.own_eq inner rows hli (by rw [HRL.out]; exact hlo) (fun r hr => by have := HRS.out r hr; omega))
  rw [HRL.out] at hown
  refine hown.mono ?_
  rintro e wb ⟨v0, v1, rfl, hR0, hS1, hb⟩
  have HR0 := Aside0.mk hR0
  have HR1 := Aside0.mk (Kd.R_mono (Kd.S_R hS1) (fun _ _ => trivial))
  have HBB := Aside0.mk hb
  clear hR0 hS1 hb hown
  refine ⟨_, rfl, ?_⟩
  refine hK.out _ _ ⟨(blk_cell (blk_below BA9.out HBB.out) 0).trans rfl, (blk_cell (blk_below BA6.out HBB.out) 0).trans rfl, (blk_cell (blk_below BA6.out HBB.out) 1).trans rfl⟩ (fun hHeld => ?_)
  clear hK K
  refine norm_ (a' := ?_) ?_ ?_
  rotate_left
  · show Act.put _ (some 16) _ = _
    simp only [Act.put, List.setIfInBounds_toArray, List.set_cons_zero, List.set_cons_succ, i64_w, i32_w]
    rfl
  obtain ⟨v, hv, hS⟩ := HSTA.out.out
  have hcall := impl_tableaux_1.calls B wa.heap.size go O v v0 v1 ts ⟨inner, rows⟩ wb (blk_below hv HBB.out) (blk_lt hv) HSTA.out.hB HBB.out.size HSTA.out.goO (Kd.S_mono (Kd.S_below hS HBB.out) (fun k hk => ⟨hk, HSTA.out.lt k (.inr hk)⟩)) (by have := HTS.out; omega) HR0.out HR1.out
  have HCALL := Aside0.mk hcall
  have HGO := Aside0.mk (blk_lt hv)
  clear hv hS hcall
  have he := enters_ (P := Tryz.prog) (f := 188) Tryz.func188 (by kernel_rfl) rfl
  refine last_ (i := 3) (N := some 17) #[true, true, true, true] rfl rfl (one_of HT_.out (by kernel_rfl)) (by decide) (fun K hK => ?_)
  refine call_ 188 #[.agg #[v0, v1], .pointer (some ⟨go, 0, none⟩)] (by rfl) rfl ?_ ?_
  · go_simp
  refine HCALL.out.mono ?_
  rintro e w' ⟨rfl, v', hv', hS', hk', hb'⟩
  refine ⟨_, rfl, ?_⟩
  refine hK.out _ _ ?_
  clear hK K he
  refine done_ (done_of HT_.out (by kernel_rfl)) ?_
  go_wp2
  refine bodyPost_ret (results_none rfl _ _ _) rfl ?_
  have hB : B ≤ w.heap.size := by have h1 := HST.out.rowsAt.2.1; have h2 := HST.out.rowsAt.lt; omega
  have hkb : Kept w wb (impl_grow.Mg go T O) := (Kept.of_below LA.out _).below HBB.out
  have hstb := HSTA.out.below HBB.out
  refine ⟨rfl, T, fun k => ((O k ∨ wa.heap.size ≤ k) ∧ k ≠ go) ∧ k < w'.heap.size, ⟨hstb.rowsAt.kept hk' ?_, ⟨v', hv', Kd.S_mono (Kd.S_bound hS') (fun k hk => ⟨hk.1, hk.2.2.1⟩)⟩, ?_, HST.out.goT, fun h => h.1.2 rfl, HST.out.hB, ?_, ?_⟩, hkb.then_ hk' (fun k hk => .inl (.inr hk)), ?_, ((LA.out.mono hB).trans (HBB.out.mono (Nat.le_trans hB LA.out.size))).trans hb'⟩
  · rintro k hT (hO | rfl)
    · exact HST.out.dis k hT hO
    · exact HST.out.goT hT
  · rintro k hT ⟨⟨hO | hO, _⟩, _⟩
    · exact HST.out.dis k hT hO
    · have := HSTA.out.lt k (.inl hT); omega
  · rintro k (hT | hO)
    · exact Nat.lt_of_lt_of_le (hstb.lt k (.inl hT)) hk'.1
    · exact hO.2
  · intro u hu
    rw [hv'] at hu
    obtain rfl : v' = u := by simpa using hu
    exact impl_grow.S_some hS' (by simp)
  · rintro k (hT | hO | hg)
    · exact .inl (.inl hT)
    · rcases hO.1.1 with h | h
      · exact .inl (.inr (.inl h))
      · exact .inr (Nat.le_trans LA.out.size h)
    · exact .inl (.inr (.inr hg))
set_option maxHeartbeats 4000000 in
set_option maxRecDepth 100000 in
theorem impl_grow.cons_ok (B go gR : Nat) (outer inner : List Int) (Ao Ai At : Option Addr) (co ci ct : Nat) (hco : outer.length ≤ co) (hci : inner.length ≤ ci) (hct : inner.length ≤ ct)
    (hbo : ∀ x ∈ outer, 0 ≤ x ∧ x ≤ 9) (hbi : ∀ x ∈ inner, 0 ≤ x ∧ x ≤ 9) (hlo : outer.length ≤ 1000) (hli : inner.length ≤ 1000) (w0 : Int) (hw0 : 0 ≤ w0) (ws : List Int) (ih : impl_grow.Ok B go gR outer inner Ao Ai At co ci ct ws) : impl_grow.Ok B go gR outer inner Ao Ai At co ci ct (w0 :: ws) := by
  intro k rows ts T O w Aw cw hst hrl hrs hk0 hk1 hts hAo hAi hAt hAw hcw
  have hu38 := Tryz.underlying74
  have hu56 := Tryz.underlying79
  have HPUT := Aside0.mk (fun Aw' => impl_grow.put_calls B go gR outer inner Ao Ai At co ci ct hco hci hct hbo hbi hlo hli w0 ws k hk0 (by simp only [List.length_cons] at hk1; omega) cw Aw' (by simpa using hcw) ih)
  have HST := Aside0.mk hst
  have HAo := Aside0.mk hAo
  have HAi := Aside0.mk hAi
  have HAt := Aside0.mk hAt
  have HAw := Aside0.mk hAw
  have HRS := Aside0.mk hrs
  have HTS := Aside0.mk hts
  have HRL := Aside0.mk hrl
  have HBO := Aside0.mk (And.intro hbo hbi)
  clear hst hAo hAi hAt hAw hrs hts hrl hbo hbi ih
  simp only [List.length_cons] at hk1 hcw ⊢
  obtain ⟨adw, eaw, hxw⟩ := Kd.at_int (HAw.out w (Kept.refl _ _)) 0 (by omega) (by simp only [List.length_cons]; omega)
  cases eaw
  have HXW := Aside0.mk (show w.cell? adw = some (.int .i64 w0) from by simpa [Addr.add, rd] using hxw)
  clear hxw
  go_enter Tryz.func187, Tryz.ntmps187
  go_wp2_with (first
    | ((with_reducible refine gate_dst (N := 5) rfl ?_); refine box_event ?hg (N := 5) ?hd (cs := #[.slice Ao outer.length co, .slice Ai inner.length ci]) (t := 74) ?hr ?_; (case hd => rfl); (case hg => rfl); (case hr => first | (go_simp; done) | (go_simp; rfl)); intro g5 h5 w5 hb5 hl5; have L5 := Aside0.mk hl5; have B5 := Aside0.mk hb5; have G5 := Aside0.mk (Nat.le_of_eq h5.symm); clear hb5 hl5 h5)
    | ((with_reducible refine gate_dst (N := 6) rfl ?_); refine box_event ?hg (N := 6) ?hd (cs := #[.slice At inner.length ct, .slice (some ⟨gR, 0, none⟩) outer.length outer.length]) (t := 79) ?hr ?_; (case hd => rfl); (case hg => rfl); (case hr => first | (go_simp; done) | (go_simp; rfl)); intro g6 h6 w6 hb6 hl6; have B6 := Aside0.mk hb6; have L6 := Aside0.mk (below_step L5.out hl6); have G6 := Aside0.mk (show w.heap.size ≤ g6 by rw [h6]; exact L5.out.size); have P6 := Aside0.mk hl6; clear hb6 hl6 h6)
    | ((with_reducible refine gate_dst (N := 7) rfl ?_); refine box_event ?hg (N := 7) ?hd (cs := #[.int .i64 k]) (t := 3) ?hr ?_; (case hd => rfl); (case hg => rfl); (case hr => first | (go_simp; done) | (go_simp; rfl)); intro g7 h7 w7 hb7 hl7; have L7 := Aside0.mk (below_step L6.out hl7); have B67 := Aside0.mk (blk_below B6.out hl7); have G7 := Aside0.mk (show w.heap.size ≤ g7 by rw [h7]; exact L6.out.size); have P7 := Aside0.mk hl7; have B7 := Aside0.mk hb7; clear hb7 hl7 h7)
    | ((with_reducible refine gate_dst (N := 8) rfl ?_); refine box_event ?hg (N := 8) ?hd (cs := #[.slice (some adw) (ws.length + 1) cw]) (t := 24) ?hr ?_; (case hd => rfl); (case hg => rfl); (case hr => first | (go_simp; done) | (go_simp; rfl)); intro g8 h8 w8 hb8 hl8; have L8 := Aside0.mk (below_step L7.out hl8); have B68 := Aside0.mk (blk_below B67.out hl8); have B88 := Aside0.mk hb8; have G8 := Aside0.mk (show w.heap.size ≤ g8 by rw [h8]; exact L7.out.size); have P8 := Aside0.mk hl8; clear hb8 hl8 h8)
    | ((with_reducible refine gate_dst (N := 9) rfl ?_); refine box_event ?hg (N := 9) ?hd (cs := #[.func (.func 188) #[] #[.pointer (some ⟨go, 0, none⟩)]]) (t := 148) ?hr ?_; (case hd => rfl); (case hg => rfl); (case hr => first | (go_simp; done) | (go_simp; rfl)); intro g9 h9 w9 hb9 hl9; have L9 := Aside0.mk (below_step L8.out hl9); have B69 := Aside0.mk (blk_below B68.out hl9); have B99 := Aside0.mk hb9; have x8 := (blk_cell (blk_below B88.out hl9) 0).trans rfl; have G9 := Aside0.mk (show w.heap.size ≤ g9 by rw [h9]; exact L8.out.size); have P9 := Aside0.mk hl9; clear hb9 hl9 h9)
    | ((with_reducible refine gate_dst (N := 10) rfl ?_); refine box_event ?hg (N := 10) ?hd (cs := #[Value.nilFunc]) (t := 169) ?hr ?_; (case hd => rfl); (case hg => rfl); (case hr => first | (go_simp; done) | (go_simp; rfl)); intro g10 h10 w10 hb10 hl10; have LB := Aside0.mk hl10; have B1010 := Aside0.mk hb10; have G10 := Aside0.mk (show w.heap.size ≤ g10 by rw [h10]; exact L9.out.size); have N10 := Aside0.mk h10; have x10 := (blk_cell hb10 0).trans rfl; have f10 := blk_frozen hb10 0; clear x8 hb10 hl10 h10))
  try clear x10
  try clear f10
  have HLC := Aside0.mk (show Below w.heap.size w w10 from below_step L9.out LB.out)
  have HLD := Aside0.mk (show Below w.heap.size w (w10.setCell ⟨g10, 0, none⟩ (.func (.func 206) #[] #[.pointer (some ⟨g5, 0, none⟩), .pointer (some ⟨g6, 0, none⟩), .pointer (some ⟨g7, 0, none⟩), .pointer (some ⟨g8, 0, none⟩), .pointer (some ⟨g9, 0, none⟩), .pointer (some ⟨g10, 0, none⟩)])) from HLC.out.setCell G10.out _)
  have HP := Aside0.mk (one_setCell (u := (.func (.func 206) #[] #[.pointer (some ⟨g5, 0, none⟩), .pointer (some ⟨g6, 0, none⟩), .pointer (some ⟨g7, 0, none⟩), .pointer (some ⟨g8, 0, none⟩), .pointer (some ⟨g9, 0, none⟩), .pointer (some ⟨g10, 0, none⟩)])) B1010.out)
  have hlt : ∀ {g : Nat}, w.heap.size ≤ g → ¬ impl_grow.Mg go T O g := fun hg hm => by have := HST.out.mlt _ hm; omega
  have HBX := Aside0.mk (show impl_grow.Boxes (w10.setCell ⟨g10, 0, none⟩ (.func (.func 206) #[] #[.pointer (some ⟨g5, 0, none⟩), .pointer (some ⟨g6, 0, none⟩), .pointer (some ⟨g7, 0, none⟩), .pointer (some ⟨g8, 0, none⟩), .pointer (some ⟨g9, 0, none⟩), .pointer (some ⟨g10, 0, none⟩)])) (impl_grow.Mg go T O) go gR outer inner Ao Ai At co ci ct k (some adw) (ws.length + 1) cw g5 g6 g7 g8 g9 g10 from by
    have b5 := blk_below (blk_below (blk_below (blk_below B5.out P6.out) P7.out) P8.out) P9.out
    have b6 := blk_below (blk_below (blk_below B6.out P7.out) P8.out) P9.out
    have b7 := blk_below (blk_below B7.out P8.out) P9.out
    have b8 := blk_below B88.out P9.out
    have b9 := B99.out
    have ne : ∀ {g : Nat} {o : Obj}, w9.heap[g]? = some o → g ≠ g10 := fun h e => by have := blk_lt h; rw [e, N10.out] at this; omega
    exact ⟨blk_far (blk_below b5 LB.out) (ne b5) _, blk_far (blk_below b6 LB.out) (ne b6) _, blk_far (blk_below b7 LB.out) (ne b7) _, blk_far (blk_below b8 LB.out) (ne b8) _, blk_far (blk_below b9 LB.out) (ne b9) _, HP.out, hlt G5.out, hlt G6.out, hlt G7.out, hlt G8.out, hlt G9.out, hlt G10.out⟩)
  clear hlt
  have HST2 := Aside0.mk (HST.out.below HLD.out)
  have HXW2 := Aside0.mk ((HLD.out.cell (World.block_lt_of_cell? w _ HXW.out)).trans HXW.out)
  have HK2 := Aside0.mk (Kept.of_below HLD.out (impl_grow.Mg go T O))
  generalize w10.setCell ⟨g10, 0, none⟩ (.func (.func 206) #[] #[.pointer (some ⟨g5, 0, none⟩), .pointer (some ⟨g6, 0, none⟩), .pointer (some ⟨g7, 0, none⟩), .pointer (some ⟨g8, 0, none⟩), .pointer (some ⟨g9, 0, none⟩), .pointer (some ⟨g10, 0, none⟩)]) = w11 at HLD HBX HST2 HXW2 HK2 ⊢
  refine start_ (n := 5) (S := fun w' => w'.cell? ⟨g10, 0, none⟩ = some (.func (.func 206) #[] #[.pointer (some ⟨g5, 0, none⟩), .pointer (some ⟨g6, 0, none⟩), .pointer (some ⟨g7, 0, none⟩), .pointer (some ⟨g8, 0, none⟩), .pointer (some ⟨g9, 0, none⟩), .pointer (some ⟨g10, 0, none⟩)]) ∧ w'.cell? ⟨g8, 0, none⟩ = some (.slice (some adw) (ws.length + 1) cw) ∧ w'.cell? adw = some (.int .i64 w0)) (ds := [4]) #[false, false, false, false, false] (by kernel_rfl) rfl rfl (⟨(blk_cell HBX.out.hp 0).trans rfl, (blk_cell HBX.out.hw 0).trans rfl, HXW2.out⟩) (fun hHeld => ?_); refine with_tabW impl_tableaux.tab187_5 impl_tableaux.bits187_5 (fun HT_ HW_ => ?_)
  have HB12 := Aside0.mk (show Below w11.heap.size w11 w11.drew from (Below.refl _ _).drew)
  generalize w11.drew = w12 at HB12 hHeld ⊢
  have hz0 : (0 : Int) < ((ws.length + 1 : Nat) : Int) := by omega
  refine take_ (i := 0) (N := some 19) (v := ?_) (a' := ?_) #[true, false, false, false, false] rfl rfl (take_ofW HT_.out HW_.out (by kernel_rfl)) (fun _ _ _ h => h) (Or.inl ⟨by rfl, ?_⟩) hHeld ?_ ?_
  rotate_left
  · rintro w' ⟨s0, s1, s2⟩
    go_simp
    with_reducible rfl
  rotate_left
  · simp only [Act.put, List.setIfInBounds_toArray, List.set_cons_zero, List.set_cons_succ, i64_w, i32_w]
    rfl
  refine take_ (i := 1) (N := some 20) (v := ?_) (a' := ?_) #[true, true, false, false, false] rfl rfl (take_ofW HT_.out HW_.out (by kernel_rfl)) (fun _ _ _ h => h) (Or.inl ⟨by rfl, ?_⟩) hHeld ?_ ?_
  rotate_left
  · rintro w' ⟨s0, s1, s2⟩
    go_simp
    with_reducible rfl
  rotate_left
  · simp only [Act.put, List.setIfInBounds_toArray, List.set_cons_zero, List.set_cons_succ, i64_w, i32_w]
    rfl
  refine pure_ (i := 2) (N := some 21) (v := ?_) (a' := ?_) #[true, true, true, false, false] rfl rfl (any_of HT_.out (by kernel_rfl)) (fun _ _ _ h => h) (Or.inl ⟨by rfl, ?_⟩) ?_ ?_
  rotate_left
  · intro w'
    go_simp
    with_reducible rfl
  rotate_left
  · simp only [Act.put, List.setIfInBounds_toArray, List.set_cons_zero, List.set_cons_succ, i64_w, i32_w]
    rfl
  refine take_ (i := 3) (N := some 22) (v := ?_) (a' := ?_) #[true, true, true, true, false] rfl rfl (take_ofW HT_.out HW_.out (by kernel_rfl)) (fun _ _ _ h => h) (Or.inl ⟨by rfl, ?_⟩) hHeld ?_ ?_
  rotate_left
  · rintro w' ⟨s0, s1, s2⟩
    go_simp
    with_reducible rfl
  rotate_left
  · simp only [Act.put, List.setIfInBounds_toArray, List.set_cons_zero, List.set_cons_succ, i64_w, i32_w]
    rfl
  clear hz0
  have he := enters_ (P := Tryz.prog) (f := 206) Tryz.func206 (by kernel_rfl) rfl
  have ew : ((w0.toNat : Nat) : Int) = w0 := Int.toNat_of_nonneg hw0
  have HK3 := Aside0.mk (HK2.out.below HB12.out)
  have hcall := HPUT.out (some adw) g5 g6 g7 g8 g9 g10 w0.toNat 0 rows ts T O w12 (HST2.out.below HB12.out) HRL.out (Nat.zero_le _) (fun r hr => by have h := HRS.out r hr; simp only [impl_grow.total, List.map_cons, List.sum_cons] at h ⊢; omega) (by have h := HTS.out; simpa only [Gr.growL] using h)
    (HAo.out.to HK3.out (fun _ h => .inl h)) (HAi.out.to HK3.out (fun _ h => .inl h)) (HAt.out.to HK3.out (fun _ h => .inl h)) (HAw.out.to HK3.out (fun _ h => .inl h)) (HBX.out.to (Kept.of_below HB12.out _) (fun _ h => .inl h))
  rw [ew] at hcall
  have HCALL := Aside0.mk hcall
  clear hcall ew
  refine last_ (i := 4) (N := some 23) #[true, true, true, true, true] rfl rfl (one_of HT_.out (by kernel_rfl)) (by decide) (fun K hK => ?_)
  refine call_ 206 #[.int .i64 0, .int .i64 w0, .pointer (some ⟨g5, 0, none⟩), .pointer (some ⟨g6, 0, none⟩), .pointer (some ⟨g7, 0, none⟩), .pointer (some ⟨g8, 0, none⟩), .pointer (some ⟨g9, 0, none⟩), .pointer (some ⟨g10, 0, none⟩)] (by rfl) rfl ?_ ?_
  · go_simp
  refine HCALL.out.mono ?_
  rintro e w' ⟨rfl, hD⟩
  refine ⟨_, rfl, ?_⟩
  refine hK.out _ _ ?_
  clear hK K he
  refine done_ (done_of HT_.out (by kernel_rfl)) ?_
  go_wp2
  refine bodyPost_end (results_none rfl _ _ _) rfl ?_
  have hB : B ≤ w.heap.size := by have h1 := HST.out.rowsAt.2.1; have h2 := HST.out.rowsAt.lt; omega
  exact ⟨rfl, impl_grow.Done.from_ HK3.out (fun _ h => .inl h) ((HLD.out.mono hB).trans (HB12.out.mono (Nat.le_trans hB HLD.out.size))) (by simpa only [Gr.growL] using hD)⟩
theorem impl_grow.ok (B go gR : Nat) (outer inner : List Int) (Ao Ai At : Option Addr) (co ci ct : Nat) (hco : outer.length ≤ co) (hci : inner.length ≤ ci) (hct : inner.length ≤ ct)
    (hbo : ∀ x ∈ outer, 0 ≤ x ∧ x ≤ 9) (hbi : ∀ x ∈ inner, 0 ≤ x ∧ x ≤ 9) (hlo : outer.length ≤ 1000) (hli : inner.length ≤ 1000) : ∀ ws : List Int, (∀ x ∈ ws, 0 ≤ x) → impl_grow.Ok B go gR outer inner Ao Ai At co ci ct ws
  | [], _ => impl_grow.nil_ok B go gR outer inner Ao Ai At co ci ct hct hlo hli
  | w0 :: ws, h => impl_grow.cons_ok B go gR outer inner Ao Ai At co ci ct hco hci hct hbo hbi hlo hli w0 (h w0 (List.mem_cons_self)) ws (impl_grow.ok B go gR outer inner Ao Ai At co ci ct hco hci hct hbo hbi hlo hli ws (fun x hx => h x (List.mem_cons_of_mem _ hx)))
def impl_tableaux.T190_1 : Bool × List (List Nat × List Nat) := (true, [([], []), ([0], [0]), ([], []), ([2, 1], [2]), ([1, 3, 3], [1, 3]), ([4, 4, 0, 1, 2, 3, 4], [4])])
def impl_tableaux.B190_1 : List Nat := [0, 1, 0, 7, 15, 31]
theorem impl_tableaux.tab190_1 : rtab .any (opsOf Tryz.f190 1) = impl_tableaux.T190_1 := by kernel_rfl
theorem impl_tableaux.bits190_1 : waitsOk impl_tableaux.T190_1.2 impl_tableaux.B190_1 = true := by kernel_rfl
set_option maxHeartbeats 4000000 in
set_option maxRecDepth 100000 in
theorem impl_tableaux_2.calls (k : Nat) (A0 : Option Addr) (c0 : Nat) (l0 : List Int) (A1 : Option Addr) (c1 : Nat) (l1 : List (List Int)) (D0 : Option Addr) (d0 : Nat) (m0 : List Int) (D1 : Option Addr) (d1 : Nat) (m1 : List (List Int)) (ta tb : ByteArray) (r : Int) (w : World)
    (h0 : Kd.C (Kd.int .i64) w A0 l0.length l0) (hc0 : l0.length ≤ c0) (h1 : Kd.C (Kd.slice 3 (Kd.int .i64)) w A1 l1.length l1) (hc1 : l1.length ≤ c1)
    (g0 : Kd.C (Kd.int .i64) w D0 m0.length m0) (hd0 : m0.length ≤ d0) (g1 : Kd.C (Kd.slice 3 (Kd.int .i64)) w D1 m1.length m1) (hd1 : m1.length ≤ d1)
    (ha : impl_TableauText.f k l0 l1 = some ta) (hb : impl_TableauText.f k m0 m1 = some tb) (hr : strings_Compare.f ta tb = some r) :
    Calls Tryz.prog 190 #[.agg #[.slice A0 l0.length c0, .slice A1 l1.length c1], .agg #[.slice D0 m0.length d0, .slice D1 m1.length d1]] w fun e w' => e = .returned (.int .i64 r) ∧ Below w.heap.size w w' := by
  have hu56 := Tryz.underlying79
  have H0 := Aside0.mk h0
  have H1 := Aside0.mk h1
  have G0 := Aside0.mk g0
  have G1 := Aside0.mk g1
  have HC := Aside0.mk (And.intro hc0 (And.intro hc1 (And.intro hd0 hd1)))
  have HT := Aside0.mk (And.intro ha (And.intro hb hr))
  clear h0 h1 g0 g1 hc0 hc1 hd0 hd1 ha hb hr
  go_enter Tryz.func190, Tryz.ntmps190
  go_wp2_with (first
    | ((with_reducible refine gate_dst (N := 2) rfl ?_); refine box_event ?hg (N := 2) ?hd (cs := #[.slice A0 l0.length c0, .slice A1 l1.length c1]) (t := 79) ?hr ?_; (case hd => rfl); (case hg => rfl); (case hr => first | (go_simp; done) | (go_simp; rfl)); intro p2 h2 w2 hb2 hl2; have B2 := Aside0.mk hb2; have L2 := Aside0.mk hl2; clear hb2 hl2 h2)
    | ((with_reducible refine gate_dst (N := 3) rfl ?_); refine box_event ?hg (N := 3) ?hd (cs := #[.slice D0 m0.length d0, .slice D1 m1.length d1]) (t := 79) ?hr ?_; (case hd => rfl); (case hg => rfl); (case hr => first | (go_simp; done) | (go_simp; rfl)); intro p3 h3 w3 hb3 hl3; have B3 := Aside0.mk hb3; have B23 := Aside0.mk (blk_below B2.out hl3); have L3 := Aside0.mk (below_step L2.out hl3); clear hb3 hl3 h3))
  refine start_ (n := 6) (S := fun w' => w'.cell? ⟨p2, 0, none⟩ = some (.slice A0 l0.length c0) ∧ w'.cell? ⟨p2, 1, none⟩ = some (.slice A1 l1.length c1) ∧ w'.cell? ⟨p3, 0, none⟩ = some (.slice D0 m0.length d0) ∧ w'.cell? ⟨p3, 1, none⟩ = some (.slice D1 m1.length d1)) (ds := []) #[false, false, false, false, false, false] (by kernel_rfl) rfl rfl (⟨(blk_cell B23.out 0).trans rfl, (blk_cell B23.out 1).trans rfl, (blk_cell B3.out 0).trans rfl, (blk_cell B3.out 1).trans rfl⟩) (fun hHeld => ?_); refine with_tabW impl_tableaux.tab190_1 impl_tableaux.bits190_1 (fun HT_ HW_ => ?_)
  have LA := Aside0.mk (show Below w.heap.size w w3.drew from L3.out.drew)
  have BA2 := Aside0.mk (blk_drew B23.out)
  have BA3 := Aside0.mk (blk_drew B3.out)
  generalize w3.drew = wa at LA BA2 BA3 hHeld ⊢
  refine take_ (i := 0) (N := some 5) (v := ?_) (a' := ?_) #[true, false, false, false, false, false] rfl rfl (take_ofW HT_.out HW_.out (by kernel_rfl)) (fun _ _ _ h => h) (Or.inl ⟨by rfl, ?_⟩) hHeld ?_ ?_
  rotate_left
  · rintro w' ⟨s0, s1, s2, s3⟩
    go_simp
    with_reducible rfl
  rotate_left
  · simp only [Act.put, List.setIfInBounds_toArray, List.set_cons_zero, List.set_cons_succ, i64_w, i32_w]
    rfl
  refine take_ (i := 2) (N := some 7) (v := ?_) (a' := ?_) #[true, false, true, false, false, false] rfl rfl (take_ofW HT_.out HW_.out (by kernel_rfl)) (fun _ _ _ h => h) (Or.inl ⟨by rfl, ?_⟩) hHeld ?_ ?_
  rotate_left
  · rintro w' ⟨s0, s1, s2, s3⟩
    go_simp
    with_reducible rfl
  rotate_left
  · simp only [Act.put, List.setIfInBounds_toArray, List.set_cons_zero, List.set_cons_succ, i64_w, i32_w]
    rfl
  refine one_ (i := 1) (N := some 6) #[true, true, true, false, false, false] rfl rfl (one_of HT_.out (by kernel_rfl)) (by decide) (fun K hK => ?_)
  refine goes_ Tryz.func86 (by kernel_rfl) rfl #[.agg #[.slice A0 l0.length c0, .slice A1 l1.length c1]] (by rfl) rfl rfl (by (try simp only [List.map_toArray, List.map_cons, List.map_nil]); rfl) ?_
  refine (impl_TableauText.calls k A0 c0 l0 A1 c1 l1 ta wa (Kd.C_below H0.out LA.out) HC.out.1 (Kd.C_below H1.out LA.out) HC.out.2.1 HT.out.1).mono ?_
  rintro e wb ⟨rfl, hbb⟩
  have LB := Aside0.mk (below_step LA.out hbb)
  have BB2 := Aside0.mk (blk_below BA2.out hbb)
  have BB3 := Aside0.mk (blk_below BA3.out hbb)
  clear hbb
  refine ⟨_, rfl, ?_⟩
  refine hK.out _ _ ⟨(blk_cell BB2.out 0).trans rfl, (blk_cell BB2.out 1).trans rfl, (blk_cell BB3.out 0).trans rfl, (blk_cell BB3.out 1).trans rfl⟩ (fun hHeld => ?_)
  clear hK K
  refine norm_ (a' := ?_) ?_ ?_
  rotate_left
  · show Act.put _ (some 6) _ = _
    simp only [Act.put, List.setIfInBounds_toArray, List.set_cons_zero, List.set_cons_succ, i64_w, i32_w]
    rfl
  refine one_ (i := 3) (N := some 8) #[true, true, true, true, false, false] rfl rfl (one_of HT_.out (by kernel_rfl)) (by decide) (fun K hK => ?_)
  refine goes_ Tryz.func86 (by kernel_rfl) rfl #[.agg #[.slice D0 m0.length d0, .slice D1 m1.length d1]] (by rfl) rfl rfl (by (try simp only [List.map_toArray, List.map_cons, List.map_nil]); rfl) ?_
  refine (impl_TableauText.calls k D0 d0 m0 D1 d1 m1 tb wb (Kd.C_below G0.out LB.out) HC.out.2.2.1 (Kd.C_below G1.out LB.out) HC.out.2.2.2 HT.out.2.1).mono ?_
  rintro e wc ⟨rfl, hbc⟩
  have LC := Aside0.mk (below_step LB.out hbc)
  have BC2 := Aside0.mk (blk_below BB2.out hbc)
  have BC3 := Aside0.mk (blk_below BB3.out hbc)
  clear hbc
  refine ⟨_, rfl, ?_⟩
  refine hK.out _ _ ⟨(blk_cell BC2.out 0).trans rfl, (blk_cell BC2.out 1).trans rfl, (blk_cell BC3.out 0).trans rfl, (blk_cell BC3.out 1).trans rfl⟩ (fun hHeld => ?_)
  clear hK K
  refine norm_ (a' := ?_) ?_ ?_
  rotate_left
  · show Act.put _ (some 8) _ = _
    simp only [Act.put, List.setIfInBounds_toArray, List.set_cons_zero, List.set_cons_succ, i64_w, i32_w]
    rfl
  have hH0 := hHeld
  refine one_ (i := 4) (N := some 9) #[true, true, true, true, true, false] rfl rfl (one_of HT_.out (by kernel_rfl)) (by decide) (fun K hK => ?_)
  refine goes_ Tryz.func191 (by kernel_rfl) rfl #[.string ta, .string tb] (by rfl) rfl rfl (by (try simp only [List.map_toArray, List.map_cons, List.map_nil]); rfl) ?_
  refine (strings_Compare.calls ta tb r wc HT.out.2.2).mono ?_
  rintro e wd ⟨rfl, ⟨nd, rfl⟩⟩
  refine ⟨_, rfl, ?_⟩
  refine hK.out _ _ hH0 (fun hHeld => ?_)
  clear hK K
  refine norm_ (a' := ?_) ?_ ?_
  rotate_left
  · show Act.put _ (some 9) _ = _
    simp only [Act.put, List.setIfInBounds_toArray, List.set_cons_zero, List.set_cons_succ, i64_w, i32_w]
    rfl
  refine pure_ (i := 5) (N := some 4) (v := ?_) (a' := ?_) #[true, true, true, true, true, true] rfl rfl (any_of HT_.out (by kernel_rfl)) (fun _ _ _ h => h) (Or.inl ⟨by rfl, ?_⟩) ?_ ?_
  rotate_left
  · intro w'
    go_simp
    with_reducible rfl
  rotate_left
  · simp only [Act.put, List.setIfInBounds_toArray, List.set_cons_zero, List.set_cons_succ, i64_w, i32_w]
    rfl
  refine done_ (done_of HT_.out (by kernel_rfl)) ?_
  go_wp2
  go_ret
  exact ⟨rfl, pw_below_drewN LC.out _⟩
theorem strings_Compare.cb_refl : ∀ a : List UInt8, Go.Lib.compareBytes a a = 0
  | [] => rfl
  | x :: a => by simp [Go.Lib.compareBytes, cb_refl a]
theorem strings_Compare.cb_swap : ∀ a b : List UInt8, Go.Lib.compareBytes a b = - Go.Lib.compareBytes b a
  | [], [] => rfl
  | [], _ :: _ => rfl
  | _ :: _, [] => rfl
  | x :: a, y :: b => by
    simp only [Go.Lib.compareBytes, UInt8.lt_iff_toNat_lt]
    have h := cb_swap a b
    split <;> split <;> first | omega | exact h | rfl
theorem strings_Compare.cb_eq : ∀ a b : List UInt8, Go.Lib.compareBytes a b = 0 → a = b
  | [], [], _ => rfl
  | [], _ :: _, h => by simp [Go.Lib.compareBytes] at h
  | _ :: _, [], h => by simp [Go.Lib.compareBytes] at h
  | x :: a, y :: b, h => by
    simp only [Go.Lib.compareBytes, UInt8.lt_iff_toNat_lt] at h
    split at h
    · omega
    · split at h
      · omega
      · have e : x = y := UInt8.toNat_inj.1 (by omega)
        rw [e, cb_eq a b h]
theorem strings_Compare.cb_trans : ∀ a b c : List UInt8, Go.Lib.compareBytes a b ≤ 0 → Go.Lib.compareBytes b c ≤ 0 → Go.Lib.compareBytes a c ≤ 0
  | [], _, [], _, _ => by simp [Go.Lib.compareBytes]
  | [], _, _ :: _, _, _ => by simp [Go.Lib.compareBytes]
  | _ :: _, [], _, h, _ => by simp [Go.Lib.compareBytes] at h
  | _ :: _, _ :: _, [], _, h => by simp [Go.Lib.compareBytes] at h
  | x :: a, y :: b, z :: c, h1, h2 => by
    have ih := cb_trans a b c
    simp only [Go.Lib.compareBytes, UInt8.lt_iff_toNat_lt] at h1 h2 ⊢
    split at h1 <;> split at h2 <;> (try split at h1) <;> (try split at h2) <;> (try omega) <;> split <;> (try omega) <;> (try (rw [if_neg (by omega)]; exact ih h1 h2))
theorem impl_tableaux_2.grown {w w' : World} (hb : Below w.heap.size w w') (hd : w.drawn ≤ w'.drawn) : ∃ q os, w' = Go.Sort.grow (w.drewN q) os := by
  refine ⟨w'.drawn - w.drawn, w'.heap.extract w.heap.size w'.heap.size, ?_⟩
  have hh : w'.heap = w.heap ++ w'.heap.extract w.heap.size w'.heap.size := by
    apply Array.ext_getElem?
    intro i
    rw [Array.getElem?_append]
    split
    · rename_i h; exact hb.block i h
    · rename_i h
      by_cases h2 : i < w'.heap.size
      · rw [Array.getElem?_extract]
        have e : w.heap.size + (i - w.heap.size) = i := by omega
        rw [if_pos (by omega), e]
      · rw [Array.getElem?_eq_none (by omega), Array.getElem?_eq_none (by simp; omega)]
  obtain ⟨h1, h2, h3, h4, h5⟩ := hb
  cases w; cases w'
  simp only [Go.Sort.grow, World.drewN] at *
  simp only [World.mk.injEq]
  exact ⟨hh, h2, by omega, h1, h3⟩
open Go.Sort in
theorem impl_tableaux_2.heap_other {α : Type} [Inhabited α] (enc : α → List Value) (k : Nat) (w : World) (blk off m : Nat) (dk : Array α) (os : Array Obj) (j : Nat) (hj : j < w.heap.size) (hne : j ≠ blk) : (sortWorldK enc k w blk off m dk os).heap[j]? = w.heap[j]? := by
  show ((w.heap.modify blk _) ++ os)[j]? = _
  rw [Array.getElem?_append, if_pos (by rw [Array.size_modify]; exact hj), Array.getElem?_modify, if_neg (Ne.symm hne)]
structure impl_tableaux_2.El (w : World) (g k B : Nat) (P : Nat → Prop) (f : Nat → Nat) where
  cs : List Value
  x : S79
  ix : Nat
  t : ByteArray
  hM : k79.M w B (fun k => (P k ∧ k ≠ g) ∧ f k = ix) x cs
  ht : impl_TableauText.f k x.f0 x.f1 = some t
theorem impl_tableaux_2.El.hK {w : World} {g k B : Nat} {P : Nat → Prop} {f : Nat → Nat} (a : impl_tableaux_2.El w g k B P f) (W : World) (hW : ∀ j, j < w.heap.size → j ≠ g → W.heap[j]? = w.heap[j]?) : k79.K W a.x a.cs :=
  k79.K_of_M (Kd.M_step a.hM (fun j hj hlt => hW j hlt hj.1.2))
theorem impl_tableaux_2.El.hl {w : World} {g k B : Nat} {P : Nat → Prop} {f : Nat → Nat} (a : impl_tableaux_2.El w g k B P f) : a.cs.length = 2 := k79.K_len (a.hK w (fun _ _ _ => rfl))
theorem impl_tableaux_2.El.h1 {w : World} {g k B : Nat} {P : Nat → Prop} {f : Nat → Nat} (a : impl_tableaux_2.El w g k B P f) : ∀ v ∈ a.cs, v.oneCell' = true := k79.K_one (a.hK w (fun _ _ _ => rfl))
def impl_tableaux_2.cf {w : World} {g k B : Nat} {P : Nat → Prop} {f : Nat → Nat} (a b : impl_tableaux_2.El w g k B P f) : Int := Go.Lib.compareBytes a.t.data.toList b.t.data.toList
open Go.Sort in
theorem impl_tableaux_2.lays (w : World) (g k B n : Nat) (P : Nat → Prop) (f : Nat → Nat) [Inhabited (impl_tableaux_2.El w g k B P f)] : CmpLays Tryz.prog 190 #[] (impl_tableaux_2.El.cs (w := w) (g := g) (k := k) (B := B) (P := P) (f := f)) 2 impl_tableaux_2.cf g 0 n w := by
  intro m os dk _ a b
  obtain ⟨A0, c0, A1, c1, ea, h1, h2, h3, h4⟩ := k79_open (a.hK _ (fun j hj hne => impl_tableaux_2.heap_other (impl_tableaux_2.El.cs (w := w) (g := g) (k := k) (B := B) (P := P) (f := f)) 2 w g 0 m dk os j hj hne))
  obtain ⟨D0, d0, D1, d1, eb, g1, g2, g3, g4⟩ := k79_open (b.hK _ (fun j hj hne => impl_tableaux_2.heap_other (impl_tableaux_2.El.cs (w := w) (g := g) (k := k) (B := B) (P := P) (f := f)) 2 w g 0 m dk os j hj hne))
  rw [ea, eb]
  have h := impl_tableaux_2.calls k A0 c0 a.x.f0 A1 c1 a.x.f1 D0 d0 b.x.f0 D1 d1 b.x.f1 a.t b.t (impl_tableaux_2.cf a b) _ h2 h1 h4 h3 g2 g1 g4 g3 a.ht b.ht rfl
  refine (Go.DrawnMono.calls_drawn h).mono ?_
  rintro e w' ⟨⟨rfl, hb⟩, hd⟩
  exact ⟨rfl, impl_tableaux_2.grown hb (hd ⟨_, rfl⟩)⟩
theorem impl_tableaux_2.els {w : World} {g k B cap : Nat} {P : Nat → Prop} {f : Nat → Nat} {ts : List S79} {inner : List Value}
    (hr : Reps ((Kd.tag f k79).M w B (fun k => P k ∧ some k ≠ (Value.slice (some ⟨g, 0, none⟩) ts.length cap).ownBlock)) 2 ts.zipIdx inner) (ht : ∀ x ∈ ts, ∃ t, impl_TableauText.f k x.f0 x.f1 = some t) :
    ∃ d : Array (impl_tableaux_2.El w g k B P f), d.size = ts.length ∧ ∀ (j : Nat) (h : j < d.size) (h2 : j < ts.length), d[j].x = ts[j] ∧ d[j].ix = j ∧ d[j].cs = (inner.drop (j * 2)).take 2 := by
  have key : ∀ j : Fin ts.length, ∃ e : impl_tableaux_2.El w g k B P f, e.x = ts[j] ∧ e.ix = j.1 ∧ e.cs = (inner.drop (j.1 * 2)).take 2 := by
    intro j
    obtain ⟨t, hj⟩ := ht ts[j] (List.getElem_mem j.2)
    have hm := hr.2 j.1 (ts[j], j.1) (Kd.zip_at (List.getElem?_eq_getElem j.2))
    exact ⟨⟨(inner.drop (j.1 * 2)).take 2, ts[j], j.1, t, k79.M_mono (fun q hq => ⟨⟨hq.1.1, fun e => hq.1.2 (by rw [e]; rfl)⟩, hq.2⟩) hm, hj⟩, rfl, rfl, rfl⟩
  refine ⟨Array.ofFn fun j : Fin ts.length => Classical.choose (key j), by simp, fun j h h2 => ?_⟩
  rw [Array.getElem_ofFn]
  exact Classical.choose_spec (key ⟨j, h2⟩)
theorem impl_tableaux_2.flat {w : World} {g k B : Nat} {P : Nat → Prop} {f : Nat → Nat} [Inhabited (impl_tableaux_2.El w g k B P f)] {ts : List S79} {inner : List Value} {d : Array (impl_tableaux_2.El w g k B P f)} (hs : d.size = ts.length) (hl : inner.length = ts.length * 2)
    (hd : ∀ (j : Nat) (h : j < d.size), d[j].cs = (inner.drop (j * 2)).take 2) : Go.Sort.flatK impl_tableaux_2.El.cs 2 d = inner.toArray := by
  refine Go.Sort.ext_get! (by simp [hs, hl]) fun t ht => ?_
  have ht' : t < d.size * 2 := by simpa using ht
  have hj : t / 2 < d.size := by omega
  rw [Go.Sort.get_flatK _ _ _ t ht', getElem!_pos d (t / 2) hj, hd _ hj]
  have hti : t < inner.length := by omega
  have e : t / 2 * 2 + t % 2 = t := by omega
  rw [getElem!_pos inner.toArray t (by simpa using hti), getElem!_pos ((inner.drop (t / 2 * 2)).take 2) (t % 2) (by rw [List.length_take, List.length_drop]; omega)]
  simp [List.getElem_take, List.getElem_drop, e]
open Go.Sort in
theorem impl_tableaux_2.swo {w : World} {g k B : Nat} {P : Nat → Prop} {f : Nat → Nat} : SWO (ltOf (impl_tableaux_2.cf (w := w) (g := g) (k := k) (B := B) (P := P) (f := f))) where
  irrefl := fun x => by simp [ltOf, impl_tableaux_2.cf, strings_Compare.cb_refl]
  trans := fun x y z h1 h2 => by
    replace h1 : Go.Lib.compareBytes x.t.data.toList y.t.data.toList < 0 := of_decide_eq_true h1
    replace h2 : Go.Lib.compareBytes y.t.data.toList z.t.data.toList < 0 := of_decide_eq_true h2
    refine decide_eq_true (p := Go.Lib.compareBytes x.t.data.toList z.t.data.toList < 0) ?_
    have h3 := strings_Compare.cb_trans _ _ _ (Int.le_of_lt h1) (Int.le_of_lt h2)
    rcases Int.lt_or_eq_of_le h3 with h | h
    · exact h
    · have e := strings_Compare.cb_eq _ _ h
      have h4 := strings_Compare.cb_swap x.t.data.toList y.t.data.toList
      rw [e] at h1 h4
      omega
  ntrans := fun x y z h1 h2 => by
    replace h1 : ¬ Go.Lib.compareBytes x.t.data.toList y.t.data.toList < 0 := of_decide_eq_false h1
    replace h2 : ¬ Go.Lib.compareBytes y.t.data.toList z.t.data.toList < 0 := of_decide_eq_false h2
    refine decide_eq_false (p := Go.Lib.compareBytes x.t.data.toList z.t.data.toList < 0) ?_
    have a := strings_Compare.cb_swap x.t.data.toList y.t.data.toList
    have b := strings_Compare.cb_swap y.t.data.toList z.t.data.toList
    have c := strings_Compare.cb_swap x.t.data.toList z.t.data.toList
    have h3 := strings_Compare.cb_trans z.t.data.toList y.t.data.toList x.t.data.toList (by omega) (by omega)
    omega
theorem impl_tableaux_2.holds {w : World} {g k B : Nat} {P : Nat → Prop} {f : Nat → Nat} [Inhabited (impl_tableaux_2.El w g k B P f)] {inner : List Value} {cur : Array Value} {t : TypeId} {d : Array (impl_tableaux_2.El w g k B P f)} (hf : Go.Sort.flatK impl_tableaux_2.El.cs 2 d = inner.toArray) (hl : inner.length = d.size * 2)
    (hh : w.heap[g]? = some (.cells cur t (0, 0))) (ht : cur.toList.take (d.size * 2) = inner) : Go.Sort.HoldsK impl_tableaux_2.El.cs 2 w g 0 d := by
  intro j hj
  rw [hf] at hj ⊢
  have hj' : j < inner.length := by simpa using hj
  rw [Nat.zero_add]
  refine ⟨?_, blk_frozen hh j⟩
  rw [blk_cell hh j, getElem!_pos inner.toArray j (by simpa using hj)]
  have h1 : inner[j]? = cur.toList[j]? := by rw [← ht, List.getElem?_take, if_pos (by omega)]
  rw [← Array.getElem?_toList, ← h1]
  simp [hj']
end Go.Proofs.YtppkfgcnmaifmaaGreatDoor.Hb
namespace Go.Proofs.YtppkfgcnmaifmaaGreatDoor.Hb
open Go.RowKit Go.Proofs.YtppkfgcnmaifmaaGreatDoorW.PrintWords Go.Proofs.YtppkfgcnmaifmaaGreatDoorW.PrintLast Go.Proofs.YtppkfgcnmaifmaaGreatDoorW.PrintMore
attribute [local go_sem] max2_int min2_int max_two min_two max_three min_three max_four min_four   -- for this text's walks alone
set_option linter.unusedVariables false
set_option linter.unusedSimpArgs false
open Go.Sort in
theorem impl_tableaux_2.sort_S (w : World) (g cap B k : Nat) (O : Nat → Prop) (ts : List S79) (hS : Kd.S k79 79 w B O (.slice (some ⟨g, 0, none⟩) ts.length cap) ts) (h0 : ∃ t, impl_TableauText.f k [] [] = some t) (hlen : ts.length < 4611686018427387904) (ht : ∀ x ∈ ts, ∃ t, impl_TableauText.f k x.f0 x.f1 = some t) :
    Calls Tryz.prog 189 #[.slice (some ⟨g, 0, none⟩) ts.length cap, .func (.func 190) #[] #[]] w fun e w' => e = .returned (.tuple #[]) ∧
      ∃ ts' : List S79, ts'.Perm ts ∧ (ts'.Pairwise fun a b => ∀ ta tb, impl_TableauText.f k a.f0 a.f1 = some ta → impl_TableauText.f k b.f0 b.f1 = some tb → Go.Lib.compareBytes ta.data.toList tb.data.toList ≤ 0) ∧
        Kd.S k79 79 w' B O (.slice (some ⟨g, 0, none⟩) ts.length cap) ts' ∧ Kept w w' (fun j => j = g) ∧ Below B w w' := by
  obtain ⟨f, hO, inner, hown, hr⟩ := hS
  rw [List.length_zipIdx] at hown
  obtain ⟨d, hds, hd⟩ := impl_tableaux_2.els hr ht
  obtain ⟨t0, ht0⟩ := h0
  haveI : Inhabited (impl_tableaux_2.El w g k B O f) := ⟨⟨[.slice none 0 0, .slice none 0 0], ⟨[], []⟩, 0, t0, k79_mkM _ _ _ ⟨[], []⟩ (Kd.R_nil _ _ _ _ _) (Kd.R_nil _ _ _ _ _), ht0⟩⟩
  have hl : inner.length = ts.length * 2 := hown.1
  rcases hown.2 with ⟨e, _⟩ | ⟨g', cap', cur, e, hBg, hh, hnc, hcm, hcs, htk⟩
  · cases e
  obtain ⟨rfl, rfl⟩ : g' = g ∧ cap' = cap := by injection e with e1 e2 e3; injection e1 with e1; injection e1 with e1; exact ⟨e1.symm, e3.symm⟩
  have hflat := impl_tableaux_2.flat (inner := inner) hds hl (fun j h => (hd j h (by omega)).2.2)
  have h := Go.Proofs.AnyQ.slices_SortFunc (P := Tryz.prog) Go.Proofs.Tryz.sortTab 2 Tryz.isAgg79 Tryz.sizeOf79 (impl_tableaux_2.El.cs (w := w) (g := g') (k := k) (B := B) (P := O) (f := f)) impl_tableaux_2.El.hl impl_tableaux_2.El.h1 impl_tableaux_2.cf impl_tableaux_2.swo 190 #[] g' 0 cap' d w (enters_ Tryz.func190 (by kernel_rfl) rfl) (impl_tableaux_2.lays w g' k B d.size O f) (impl_tableaux_2.holds hflat (by rw [hl, hds]) hh (by rw [hds]; exact htk)) (blk_lt hh) (by omega)
  rw [hds] at h
  refine (show Calls Tryz.prog 189 _ _ _ from h).mono ?_
  rintro e w' ⟨rfl, d', n, os, hperm, hsort, rfl⟩
  have hsz : d'.size = ts.length := hperm.1.trans hds
  have hpl : d'.toList.Perm d.toList := by
    have h1 := hperm.2.2
    rwa [show d'.extract 0 ts.length = d' from by rw [← hsz]; exact Array.extract_size, show d.extract 0 ts.length = d from by rw [← hds]; exact Array.extract_size] at h1
  have hdx : d.toList.map impl_tableaux_2.El.x = ts := by
    apply List.ext_getElem (by simp [hds])
    intro j h1 h2
    simp only [List.getElem_map, Array.getElem_toList]
    exact (hd j (by simpa using h1) h2).1
  have hdi : d.toList.map impl_tableaux_2.El.ix = List.range ts.length := by
    apply List.ext_getElem (by simp [hds])
    intro j h1 h2
    simp only [List.getElem_map, Array.getElem_toList, List.getElem_range]
    exact (hd j (by simpa using h1) (by simpa using h2)).2.1
  have hsize : w.heap.size ≤ (sortWorldK impl_tableaux_2.El.cs 2 w g' 0 n d' os).heap.size := by
    show _ ≤ ((w.heap.modify g' _) ++ os).size
    rw [Array.size_append, Array.size_modify]
    omega
  refine ⟨rfl, d'.toList.map impl_tableaux_2.El.x, ?_, ?_, ?_, ?_, ?_⟩
  · rw [← hdx]; exact hpl.map _
  · rw [List.pairwise_map, List.pairwise_iff_getElem]
    intro i j hi hj hij ta tb h1 h2
    have hj' : j < d'.size := by simpa using hj
    have hi' : i < d'.size := by simpa using hi
    have hs := hsort i j (Nat.zero_le _) hij (by omega)
    rw [getElem!_pos d' i hi', getElem!_pos d' j hj'] at hs
    have hs' : ¬ Go.Lib.compareBytes d'[j].t.data.toList d'[i].t.data.toList < 0 := of_decide_eq_false hs
    simp only [Array.getElem_toList] at h1 h2
    obtain rfl : d'[i].t = ta := Option.some.inj (d'[i].ht.symm.trans h1)
    obtain rfl : d'[j].t = tb := Option.some.inj (d'[j].ht.symm.trans h2)
    have := strings_Compare.cb_swap d'[i].t.data.toList d'[j].t.data.toList
    omega
  · have hix : (d'.toList.map impl_tableaux_2.El.ix).Nodup := ((hpl.map impl_tableaux_2.El.ix).trans (by rw [hdi])).nodup_iff.2 List.nodup_range
    have hdl : d'.toList.length = ts.length := by rw [← hsz]; rfl
    have hcl : ∀ j (h : j < d'.size), d'[j].cs.length = 2 := fun j h => d'[j].hl
    have hfl : (Go.Sort.flatK impl_tableaux_2.El.cs 2 d').toList.length = ts.length * 2 := by simp [hsz]
    have hseg : ∀ j (h : j < d'.size), (((Go.Sort.flatK impl_tableaux_2.El.cs 2 d').toList.drop (j * 2)).take 2) = d'[j].cs := by
      intro j h
      apply List.ext_getElem
      · rw [List.length_take, List.length_drop, hfl, hcl j h]; omega
      · intro i h1 h2
        have hi : i < 2 := by rw [hcl j h] at h2; exact h2
        have hlt : j * 2 + i < d'.size * 2 := by omega
        rw [List.getElem_take, List.getElem_drop, Array.getElem_toList]
        have := Go.Sort.get_flatK impl_tableaux_2.El.cs 2 d' (j * 2 + i) hlt
        rw [getElem!_pos _ _ (by simpa using hlt)] at this
        rw [this, show (j * 2 + i) / 2 = j from by omega, show (j * 2 + i) % 2 = i from by omega, getElem!_pos d' j h, getElem!_pos d'[j].cs i h2]
    refine ⟨fun q => (d'.toList.map impl_tableaux_2.El.ix).idxOf (f q), hO, (Go.Sort.flatK impl_tableaux_2.El.cs 2 d').toList, ?_, ?_⟩
    · rw [List.length_zipIdx, List.length_map, hdl]
      refine ⟨hfl, .inr ⟨g', cap', putCells id 0 (Go.Sort.flatK impl_tableaux_2.El.cs 2 d') cur, rfl, hBg, ?_, hnc, hcm, ?_, ?_⟩⟩
      · show ((w.heap.modify g' _) ++ os)[g']? = _
        rw [Array.getElem?_append, if_pos (by rw [Array.size_modify]; exact blk_lt hh), Array.getElem?_modify, if_pos rfl, hh]
        rfl
      · have h1 : cur.size = cap' * 2 := hcs
        show (putCells id 0 (Go.Sort.flatK impl_tableaux_2.El.cs 2 d') cur).size = cap' * 2
        simp [putCells, h1]
      · have h1 : cur.size = cap' * 2 := hcs
        show List.take (ts.length * 2) (putCells id 0 (Go.Sort.flatK impl_tableaux_2.El.cs 2 d') cur).toList = _
        apply List.ext_getElem
        · rw [hfl, List.length_take]; simp [putCells, h1]; omega
        · intro i h2 h3
          have hi : i < ts.length * 2 := by rw [hfl] at h3; exact h3
          rw [List.getElem_take, Array.getElem_toList, Array.getElem_toList]
          simp only [putCells, Array.getElem_mapIdx]
          rw [if_pos (by simp [hsz]; omega)]
          simp only [Nat.sub_zero, id]
          rw [getElem!_pos _ _ (by simp [hsz]; omega)]
    · refine ⟨by rw [hfl, List.length_zipIdx, List.length_map, hdl]; rfl, fun j p hj => ?_⟩
      obtain ⟨hj1, hj2⟩ := List.getElem?_eq_some_iff.1 hj
      rw [List.length_zipIdx, List.length_map, hdl] at hj1
      have hjd : j < d'.size := by omega
      rw [List.getElem_zipIdx, List.getElem_map, Array.getElem_toList] at hj2
      subst hj2
      rw [show (Kd.tag (fun q => (d'.toList.map impl_tableaux_2.El.ix).idxOf (f q)) k79).sz = 2 from rfl, hseg j hjd]
      have hidx : (d'.toList.map impl_tableaux_2.El.ix).idxOf d'[j].ix = 0 + j := by
        have h1 : j < (d'.toList.map impl_tableaux_2.El.ix).length := by rw [List.length_map, hdl]; exact hj1
        have h2 := hix.idxOf_getElem j h1
        rw [List.getElem_map, Array.getElem_toList] at h2
        omega
      exact k79.M_mono (fun q hq => ⟨⟨hq.1.1, fun e => hq.1.2 (Option.some.inj e)⟩, by show List.idxOf (f q) _ = 0 + j; rw [hq.2]; exact hidx⟩) (Kd.M_step d'[j].hM (fun q hq hlt => impl_tableaux_2.heap_other _ 2 w g' 0 n d' os q hlt hq.1.2))
  · exact ⟨hsize, fun i hi hn => impl_tableaux_2.heap_other _ 2 w g' 0 n d' os i hi hn⟩
  · exact ⟨rfl, rfl, rfl, hsize, fun j hj => impl_tableaux_2.heap_other _ 2 w g' 0 n d' os j (by have := blk_lt hh; omega) (by omega)⟩
def impl_tableaux.T157_2 : Bool × List (List Nat × List Nat) := (true, [([], []), ([0], [0]), ([], []), ([2, 1], [2]), ([1, 3], [1, 3])])
def impl_tableaux.B157_2 : List Nat := [0, 1, 0, 7, 15]
theorem impl_tableaux.tab157_2 : rtab .any (opsOf Tryz.f157 2) = impl_tableaux.T157_2 := by kernel_rfl
theorem impl_tableaux.bits157_2 : waitsOk impl_tableaux.T157_2.2 impl_tableaux.B157_2 = true := by kernel_rfl
def impl_tableaux.T157_4 : Bool × List (List Nat × List Nat) := (true, [([], []), ([0], [0]), ([1], [1]), ([], []), ([3], [3]), ([4], [4]), ([5, 5], [5]), ([2, 6], [2, 6]), ([], []), ([8, 7, 2, 0, 1, 2, 3, 4, 5, 6, 7, 8], [7, 8])])
def impl_tableaux.B157_4 : List Nat := [0, 1, 3, 0, 8, 24, 56, 127, 0, 511]
theorem impl_tableaux.tab157_4 : rtab .any (opsOf Tryz.f157 4) = impl_tableaux.T157_4 := by kernel_rfl
theorem impl_tableaux.bits157_4 : waitsOk impl_tableaux.T157_4.2 impl_tableaux.B157_4 = true := by kernel_rfl
theorem impl_tableaux.rowsAt_new {w : World} {B g n : Nat} {T : Nat → Prop} (hT : T g) (hB : B ≤ g) (hh : w.heap[g]? = some (.cells (madeCells #[.slice none 0 0] n) 24 (0, 0))) : impl_grow.RowsAt w B g T (List.replicate n []) := by
  have hm : madeCells #[Value.slice none 0 0] n = (List.replicate n (Value.slice none 0 0)).toArray := by
    apply Array.ext'
    apply List.ext_getElem
    · simp [madeCells]
    · intro i h1 h2
      simp [madeCells, Nat.mod_one]
  refine ⟨hT, hB, List.replicate n (.slice none 0 0), by simp, by rw [hh, hm], fun i v xs hv hx => ?_, fun i j v u _ hv _ k hk => ?_⟩
  · rw [List.getElem?_replicate] at hv hx
    split at hv
    · rename_i hi
      rw [if_pos hi] at hx
      obtain rfl := Option.some.inj hv
      obtain rfl := Option.some.inj hx
      exact ⟨⟨rfl, .inl ⟨rfl, rfl⟩⟩, fun k hk => by simp [Value.ownBlock] at hk⟩
    · cases hv
  · rw [List.getElem?_replicate] at hv
    split at hv
    · obtain rfl := Option.some.inj hv
      simp [Value.ownBlock] at hk
    · cases hv
set_option maxHeartbeats 4000000 in
set_option maxRecDepth 100000 in
theorem impl_tableaux.none_calls (k : Nat) (A0 : Option Addr) (c0 : Nat) (outer : List Int) (A1 : Option Addr) (c1 : Nat) (inner : List Int) (A2 : Option Addr) (c2 : Nat) (ws : List Int) (s c : Int) (w : World)
    (hO : Kd.C (Kd.int .i64) w A0 outer.length outer) (hc0 : outer.length ≤ c0) (hI : Kd.C (Kd.int .i64) w A1 inner.length inner) (hc1 : inner.length ≤ c1) (hW : Kd.C (Kd.int .i64) w A2 ws.length ws) (hc2 : ws.length ≤ c2)
    (hs : impl_sum.f k ws = some s) (hcc : impl_CellCount.f k outer inner = some c) (hne : s ≠ c) :
    Calls Tryz.prog 157 #[.agg #[.slice A0 outer.length c0, .slice A1 inner.length c1], .slice A2 ws.length c2] w fun e w' => ∃ v0_ : Value, e = .returned v0_ ∧ Kd.S k79 79 w' w.heap.size (fun _ => True) v0_ [] ∧ Below w.heap.size w w' := by
  have ct1 : (s == c) = false := beq_false_of_ne hne
  have ct2 : (s != c) = true := by simp [bne, ct1]
  clear hne
  have hu38 := Tryz.underlying74
  have hu56 := Tryz.underlying79
  have HO := Aside0.mk hO
  have HI := Aside0.mk hI
  have HW := Aside0.mk hW
  have HC := Aside0.mk (And.intro hc0 (And.intro hc1 hc2))
  have HS := Aside0.mk (And.intro hs hcc)
  clear hO hI hW hc0 hc1 hc2 hs hcc
  go_enter Tryz.func157, Tryz.ntmps157
  go_wp2_with (first
    | ((with_reducible refine gate_dst (N := 2) rfl ?_); refine box_event ?hg (N := 2) ?hd (cs := #[.slice A0 outer.length c0, .slice A1 inner.length c1]) (t := 74) ?hr ?_; (case hd => rfl); (case hg => rfl); (case hr => first | (go_simp; done) | (go_simp; rfl)); intro g2 h2 w2 hb2 hl2; have B2 := Aside0.mk hb2; have L2 := Aside0.mk hl2; have G2 := Aside0.mk (Nat.le_of_eq h2.symm); clear hb2 hl2 h2)
    | ((with_reducible refine gate_dst (N := 7) rfl ?_); refine Kd.S_lit k79 (w0 := w) w.heap.size 79 ?hg (N := 7) ?hd (xs := ([] : List S79)) (inner := []) (ok := fun k => w2.heap.size ≤ k) (okp := fun k => w2.heap.size ≤ k) ?hr ?hp (fun _ hk => hk) (Nat.le_refl _) L2.out L2.out.size (by simp) ?_; (case hd => rfl); (case hg => rfl); (case hr => first | (go_simp; done) | (go_simp; rfl)); (case hp => exact (Reps.none _ _)); intro v7 w7 ho7 hb7 hg_ hnew_; obtain ⟨A7, n7, c7, hv7⟩ : ∃ A n c, v7 = .slice A n c := (by obtain ⟨A, c, h⟩ := Kd.S_slice ho7; exact ⟨A, _, c, h⟩); subst hv7; have S7 := Aside0.mk (Kd.S_mono (ok' := fun k => w2.heap.size ≤ k ∧ k < w7.heap.size) (Kd.S_bound ho7) (fun k hk => ⟨hk.1, hk.2.2.1⟩)); have L7 := Aside0.mk hb7; have B27 := Aside0.mk (blk_grown B2.out hg_ (by simp)); have Z7 := Aside0.mk hg_.size; clear ho7 hb7 hg_ hnew_)
    | ((with_reducible refine gate_dst (N := 5) rfl ?_); refine box_event ?hg (N := 5) ?hd (cs := #[.slice none 0 0]) (t := 103) ?hr ?_; (case hd => rfl); (case hg => rfl); (case hr => first | (go_simp; done) | (go_simp; rfl)); intro g5 h5 w5 hb5 hl5; have B5 := Aside0.mk hb5; have L5 := Aside0.mk (below_step L7.out hl5); have P5 := Aside0.mk hl5; have G5 := Aside0.mk h5; have x5 := (blk_cell hb5 0).trans rfl; have f5 := blk_frozen hb5 0; clear hb5 hl5 h5))
  clear x5 f5
  have HG5 := Aside0.mk (show w.heap.size ≤ g5 by rw [G5.out]; exact L7.out.size)
  have HB5 := Aside0.mk (one_setCell (u := .slice A7 n7 c7) B5.out)
  have HB2 := Aside0.mk (blk_far (blk_below B27.out P5.out) (p := ⟨g5, 0, none⟩) (fun e => by have h1 := blk_lt B27.out; have h2 := G5.out; simp only at e; omega) (.slice A7 n7 c7))
  have HS5 := Aside0.mk (Kd.S_far (p := ⟨g5, 0, none⟩) (Kd.S_below S7.out P5.out) (fun k hk e => by have h1 := hk.2; have h2 := G5.out; simp only at e; omega) (.slice A7 n7 c7))
  have LS := Aside0.mk (show Below w.heap.size w (w5.setCell ⟨g5, 0, none⟩ (.slice A7 n7 c7)) from L5.out.setCell HG5.out _)
  refine start_ (n := 5) (S := fun w' => w'.cell? ⟨g2, 0, none⟩ = some (.slice A0 outer.length c0) ∧ w'.cell? ⟨g2, 1, none⟩ = some (.slice A1 inner.length c1)) (ds := []) #[false, false, false, false, false] (by kernel_rfl) rfl rfl (⟨(blk_cell HB2.out 0).trans rfl, (blk_cell HB2.out 1).trans rfl⟩) (fun hHeld => ?_); refine with_tabW impl_tableaux.tab157_2 impl_tableaux.bits157_2 (fun HT_ HW_ => ?_)
  have LA := Aside0.mk (show Below w.heap.size w (w5.setCell ⟨g5, 0, none⟩ (.slice A7 n7 c7)).drew from LS.out.drew)
  have BA2 := Aside0.mk (blk_drew HB2.out)
  have BA5 := Aside0.mk (blk_drew HB5.out)
  have SA := Aside0.mk (Kd.S_below HS5.out (below_drew (Below.refl _ _)))
  have ZA := Aside0.mk (show w7.heap.size ≤ g5 ∧ g5 < (w5.setCell ⟨g5, 0, none⟩ (.slice A7 n7 c7)).drew.heap.size from ⟨Nat.le_of_eq G5.out.symm, blk_lt HB5.out⟩)
  generalize (w5.setCell ⟨g5, 0, none⟩ (.slice A7 n7 c7)).drew = wa at LA BA2 BA5 SA ZA hHeld ⊢
  clear HB5 HB2 HS5 LS
  refine pure_ (i := 0) (N := some 8) (v := ?_) (a' := ?_) #[true, false, false, false, false] rfl rfl (any_of HT_.out (by kernel_rfl)) (fun _ _ _ h => h) (Or.inl ⟨by rfl, ?_⟩) ?_ ?_
  rotate_left
  · intro w'
    go_simp
    with_reducible rfl
  rotate_left
  · simp only [Act.put, List.setIfInBounds_toArray, List.set_cons_zero, List.set_cons_succ, i64_w, i32_w]
    rfl
  refine take_ (i := 2) (N := some 10) (v := ?_) (a' := ?_) #[true, false, true, false, false] rfl rfl (take_ofW HT_.out HW_.out (by kernel_rfl)) (fun _ _ _ h => h) (Or.inl ⟨by rfl, ?_⟩) hHeld ?_ ?_
  rotate_left
  · rintro w' ⟨s0, s1⟩
    go_simp
    with_reducible rfl
  rotate_left
  · simp only [Act.put, List.setIfInBounds_toArray, List.set_cons_zero, List.set_cons_succ, i64_w, i32_w]
    rfl
  refine one_ (i := 1) (N := some 9) #[true, true, true, false, false] rfl rfl (one_of HT_.out (by kernel_rfl)) (by decide) (fun K hK => ?_)
  refine goes_ Tryz.func50 (by kernel_rfl) rfl #[.slice A2 ws.length c2] (by rfl) rfl rfl (by (try simp only [List.map_toArray, List.map_cons, List.map_nil]); rfl) ?_
  refine (impl_sum.calls k A2 c2 ws s wa (Kd.C_below HW.out LA.out) HC.out.2.2 HS.out.1).mono ?_
  rintro e wd ⟨rfl, ⟨nd, rfl⟩⟩
  refine ⟨_, rfl, ?_⟩
  have DD := Aside0.mk (show Below wa.heap.size wa (wa.drewN nd) from pw_below_drewN (Below.refl _ _) _)
  refine hK.out _ _ ⟨(blk_cell (blk_drewN BA2.out _) 0).trans rfl, (blk_cell (blk_drewN BA2.out _) 1).trans rfl⟩ (fun hHeld => ?_)
  clear hK K
  refine norm_ (a' := ?_) ?_ ?_
  rotate_left
  · show Act.put _ (some 9) _ = _
    simp only [Act.put, List.setIfInBounds_toArray, List.set_cons_zero, List.set_cons_succ, i64_w, i32_w]
    rfl
  refine one_ (i := 3) (N := some 11) #[true, true, true, true, false] rfl rfl (one_of HT_.out (by kernel_rfl)) (by decide) (fun K hK => ?_)
  refine goes_ Tryz.func186 (by kernel_rfl) rfl #[.agg #[.slice A0 outer.length c0, .slice A1 inner.length c1]] (by rfl) rfl rfl (by (try simp only [List.map_toArray, List.map_cons, List.map_nil]); rfl) ?_
  refine (impl_CellCount.calls k A0 c0 outer A1 c1 inner c _ (Kd.C_below HO.out (below_step LA.out DD.out)) HC.out.1 (Kd.C_below HI.out (below_step LA.out DD.out)) HC.out.2.1 HS.out.2).mono ?_
  rintro e wb ⟨rfl, hbc⟩
  have hwb := below_step DD.out hbc
  have LB := Aside0.mk (below_step LA.out hwb)
  have BB2 := Aside0.mk (blk_below BA2.out hwb)
  have BB5 := Aside0.mk (blk_below BA5.out hwb)
  have SB := Aside0.mk (Kd.S_below SA.out hwb)
  have ZB := Aside0.mk (show w7.heap.size ≤ g5 ∧ wa.heap.size ≤ wb.heap.size ∧ g5 < wa.heap.size from ⟨ZA.out.1, hwb.size, ZA.out.2⟩)
  clear hwb hbc LA BA2 BA5 SA ZA DD
  refine ⟨_, rfl, ?_⟩
  refine hK.out _ _ ⟨(blk_cell BB2.out 0).trans rfl, (blk_cell BB2.out 1).trans rfl⟩ (fun hHeld => ?_)
  clear hK K
  refine norm_ (a' := ?_) ?_ ?_
  rotate_left
  · show Act.put _ (some 11) _ = _
    simp only [Act.put, List.setIfInBounds_toArray, List.set_cons_zero, List.set_cons_succ, i64_w, i32_w]
    rfl
  refine pure_ (i := 4) (N := some 12) (v := ?_) (a' := ?_) #[true, true, true, true, true] rfl rfl (any_of HT_.out (by kernel_rfl)) (fun _ _ _ h => h) (Or.inl ⟨by rfl, ?_⟩) ?_ ?_
  rotate_left
  · intro w'
    go_simp
    with_reducible rfl
  rotate_left
  · simp only [Act.put, List.setIfInBounds_toArray, List.set_cons_zero, List.set_cons_succ, i64_w, i32_w]
    rfl
  refine done_ (done_of HT_.out (by kernel_rfl)) ?_
  have hx := (blk_cell BB5.out 0).trans rfl
  go_wp2
  go_ret
  exact ⟨_, rfl, Kd.S_mono SB.out (fun _ _ => trivial), LB.out⟩
end Go.Proofs.YtppkfgcnmaifmaaGreatDoor.Hb
