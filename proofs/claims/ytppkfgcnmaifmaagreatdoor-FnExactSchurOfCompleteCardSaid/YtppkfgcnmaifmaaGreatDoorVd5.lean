/- What the proof of the law leans on, part 5 of 6: contracts of the functions that it reaches, the words they are told in (laid by the kit's print.sh, here only as far as they are used), and what they come to. -/
import Derived.Test.YtppkfgcnmaifmaaGreatDoorVd4
namespace Go.Proofs.YtppkfgcnmaifmaaGreatDoor.Hb
open Go.RowKit Go.Proofs.YtppkfgcnmaifmaaGreatDoorW.PrintWords Go.Proofs.YtppkfgcnmaifmaaGreatDoorW.PrintLast Go.Proofs.YtppkfgcnmaifmaaGreatDoorW.PrintMore
attribute [local go_sem] max2_int min2_int max_two min_two max_three min_three max_four min_four   -- for this text's walks alone
set_option linter.unusedVariables false
set_option linter.unusedSimpArgs false
theorem impl_tableaux.S_at {α : Type} {d : Kd α} {e base : Nat} {w : World} {ok : Nat → Prop} {v : Value} {xs : List α} (h : Kd.S d e w base ok v xs) (hn : v.ownBlock ≠ none) : ∃ g c, v = .slice (some ⟨g, 0, none⟩) xs.length c ∧ ok g := by
  obtain ⟨f, hO, inner, hown, hr⟩ := h
  rw [List.length_zipIdx] at hown
  rcases hown.2 with ⟨e, _⟩ | ⟨g', cap', cur, e, _⟩
  · rw [e] at hn
    simp [Value.ownBlock] at hn
  · subst e
    exact ⟨g', cap', rfl, hO g' rfl⟩
set_option maxHeartbeats 8000000 in
set_option maxRecDepth 100000 in
theorem impl_tableaux.some_calls (k : Nat) (A0 : Option Addr) (c0 : Nat) (outer : List Int) (A1 : Option Addr) (c1 : Nat) (inner : List Int) (A2 : Option Addr) (c2 : Nat) (ws : List Int) (s c : Int) (w : World)
    (hO : Kd.C (Kd.int .i64) w A0 outer.length outer) (hc0 : outer.length ≤ c0) (hI : Kd.C (Kd.int .i64) w A1 inner.length inner) (hc1 : inner.length ≤ c1) (hW : Kd.C (Kd.int .i64) w A2 ws.length ws) (hc2 : ws.length ≤ c2)
    (hs : impl_sum.f k ws = some s) (hcc : impl_CellCount.f k outer inner = some c) (heq : s = c)
    (hbo : ∀ x ∈ outer, 0 ≤ x ∧ x ≤ 9) (hbi : ∀ x ∈ inner, 0 ≤ x ∧ x ≤ 9) (hlo : outer.length ≤ 1000) (hli : inner.length ≤ 1000) (hws : ∀ x ∈ ws, 0 ≤ x) (hwl : ws.length ≤ 900) (hwt : impl_grow.total ws ≤ 1000)
    (hgl : (Gr.growL outer inner ws (List.replicate outer.length []) 1).length < 2000000000) (ht0 : ∃ t, impl_TableauText.f k [] [] = some t) (ht : ∀ r ∈ Gr.growL outer inner ws (List.replicate outer.length []) 1, ∃ t, impl_TableauText.f k inner r = some t) :
    Calls Tryz.prog 157 #[.agg #[.slice A0 outer.length c0, .slice A1 inner.length c1], .slice A2 ws.length c2] w fun e w' => ∃ v0_ : Value, e = .returned v0_ ∧
      (∃ ts' : List S79, ts'.Perm ((Gr.growL outer inner ws (List.replicate outer.length []) 1).map fun r => ⟨inner, r⟩) ∧ (ts'.Pairwise fun a b => ∀ ta tb, impl_TableauText.f k a.f0 a.f1 = some ta → impl_TableauText.f k b.f0 b.f1 = some tb → Go.Lib.compareBytes ta.data.toList tb.data.toList ≤ 0) ∧
        Kd.S k79 79 w' w.heap.size (fun _ => True) v0_ ts') ∧ Below w.heap.size w w' := by
  have ct1 : (s == c) = true := by simp [heq]
  have ct2 : (s != c) = false := by simp [bne, ct1]
  have HL := Aside0.mk (And.intro hlo (And.intro hli (And.intro hwl hwt)))
  have HBW := Aside0.mk (And.intro hbo (And.intro hbi hws))
  have HGL := Aside0.mk hgl
  have HT := Aside0.mk (And.intro ht0 ht)
  have HCL : Aside0 (slices_Clone_int_int.f inner = some inner) := ⟨by unfold slices_Clone_int_int.f; rw [if_pos (by omega)]⟩
  clear heq hlo hli hwl hwt hbo hbi hws hgl ht0 ht
  have hu38 := Tryz.underlying74
  have hu56 := Tryz.underlying79
  have HO := Aside0.mk hO
  have HI := Aside0.mk hI
  have HW := Aside0.mk hW
  have HC := Aside0.mk (And.intro hc0 (And.intro hc1 hc2))
  have HS := Aside0.mk (And.intro hs hcc)
  clear hO hI hW hc0 hc1 hc2 hs hcc
  go_enter Tryz.func157, Tryz.ntmps157
  go_wp2_with (first
    | ((with_reducible refine gate_dst (N := 2) rfl ?_); refine box_event ?hg (N := 2) ?hd (cs := #[.slice A0 outer.length c0, .slice A1 inner.length c1]) (t := 74) ?hr ?_; (case hd => rfl); (case hg => rfl); (case hr => first | (go_simp; done) | (go_simp; rfl)); intro g2 h2 w2 hb2 hl2; have B2 := Aside0.mk hb2; have L2 := Aside0.mk hl2; have G2 := Aside0.mk (Nat.le_of_eq h2.symm); have Z2 := Aside0.mk hl2.size; clear hb2 hl2 h2)
    | ((with_reducible refine gate_dst (N := 7) rfl ?_); refine Kd.S_lit k79 (w0 := w) w.heap.size 79 ?hg (N := 7) ?hd (xs := ([] : List S79)) (inner := []) (ok := fun k => w2.heap.size ≤ k) (okp := fun k => w2.heap.size ≤ k) ?hr ?hp (fun _ hk => hk) (Nat.le_refl _) L2.out L2.out.size (by simp) ?_; (case hd => rfl); (case hg => rfl); (case hr => first | (go_simp; done) | (go_simp; rfl)); (case hp => exact (Reps.none _ _)); intro v7 w7 ho7 hb7 hg_ hnew_; obtain ⟨A7, n7, c7, hv7⟩ : ∃ A n c, v7 = .slice A n c := (by obtain ⟨A, c, h⟩ := Kd.S_slice ho7; exact ⟨A, _, c, h⟩); subst hv7; have S7 := Aside0.mk (Kd.S_mono (ok' := fun k => w2.heap.size ≤ k ∧ k < w7.heap.size) (Kd.S_bound ho7) (fun k hk => ⟨hk.1, hk.2.2.1⟩)); have L7 := Aside0.mk hb7; have B27 := Aside0.mk (blk_grown B2.out hg_ (by simp)); have Z7 := Aside0.mk hg_.size; have VN := Aside0.mk (show (Value.slice A7 n7 c7).ownBlock ≠ none by obtain ⟨b, hb, _⟩ := hnew_; rw [hb]; simp); clear ho7 hb7 hg_ hnew_)
    | ((with_reducible refine gate_dst (N := 5) rfl ?_); refine box_event ?hg (N := 5) ?hd (cs := #[.slice none 0 0]) (t := 103) ?hr ?_; (case hd => rfl); (case hg => rfl); (case hr => first | (go_simp; done) | (go_simp; rfl)); intro g5 h5 w5 hb5 hl5; have B5 := Aside0.mk hb5; have L5 := Aside0.mk (below_step L7.out hl5); have P5 := Aside0.mk hl5; have G5 := Aside0.mk h5; have x5 := (blk_cell hb5 0).trans rfl; have f5 := blk_frozen hb5 0; clear hb5 hl5 h5))
  clear x5 f5
  have HG5 := Aside0.mk (show w.heap.size ≤ g5 by rw [G5.out]; exact L7.out.size)
  have HB5 := Aside0.mk (one_setCell (u := .slice A7 n7 c7) B5.out)
  have HB2 := Aside0.mk (blk_far (blk_below B27.out P5.out) (p := ⟨g5, 0, none⟩) (fun e => by have h1 := blk_lt B27.out; have h2 := G5.out; simp only at e; omega) (.slice A7 n7 c7))
  have HS5 := Aside0.mk (Kd.S_far (p := ⟨g5, 0, none⟩) (Kd.S_below S7.out P5.out) (fun k hk e => by have h1 := hk.2; have h2 := G5.out; simp only at e; omega) (.slice A7 n7 c7))
  have LS := Aside0.mk (show Below w.heap.size w (w5.setCell ⟨g5, 0, none⟩ (.slice A7 n7 c7)) from L5.out.setCell HG5.out _)
  refine start_ (n := 5) (S := fun w' => w'.cell? ⟨g2, 0, none⟩ = some (.slice A0 outer.length c0) ∧ w'.cell? ⟨g2, 1, none⟩ = some (.slice A1 inner.length c1)) (ds := []) #[false, false, false, false, false] (by kernel_rfl) rfl rfl (⟨(blk_cell HB2.out 0).trans rfl, (blk_cell HB2.out 1).trans rfl⟩) (fun hHeld => ?_); refine with_tabW impl_tableaux.tab157_2 impl_tableaux.bits157_2 (fun HT_ HW_ => ?_)
  have LA := Aside0.mk (show Below w.heap.size w (w5.setCell ⟨g5, 0, none⟩ (.slice A7 n7 c7)).drew from LS.out.drew)
  have BA2 := Aside0.mk (blk_drew HB2.out)
  have BA5 := Aside0.mk (blk_drew HB5.out)
  have SA := Aside0.mk (Kd.S_below HS5.out (below_drew (Below.refl _ _)))
  have ZA := Aside0.mk (show w7.heap.size ≤ g5 ∧ g5 < (w5.setCell ⟨g5, 0, none⟩ (.slice A7 n7 c7)).drew.heap.size from ⟨Nat.le_of_eq G5.out.symm, blk_lt HB5.out⟩)
  generalize (w5.setCell ⟨g5, 0, none⟩ (.slice A7 n7 c7)).drew = wa at LA BA2 BA5 SA ZA hHeld ⊢
  clear HB5 HB2 HS5 LS
  refine pure_ (i := 0) (N := some 8) (v := ?_) (a' := ?_) #[true, false, false, false, false] rfl rfl (any_of HT_.out (by kernel_rfl)) (fun _ _ _ h => h) (Or.inl ⟨by rfl, ?_⟩) ?_ ?_
  rotate_left
  · intro w'
    go_simp
    with_reducible rfl
  rotate_left
  · simp only [Act.put, List.setIfInBounds_toArray, List.set_cons_zero, List.set_cons_succ, i64_w, i32_w]
    rfl
  refine take_ (i := 2) (N := some 10) (v := ?_) (a' := ?_) #[true, false, true, false, false] rfl rfl (take_ofW HT_.out HW_.out (by kernel_rfl)) (fun _ _ _ h => h) (Or.inl ⟨by rfl, ?_⟩) hHeld ?_ ?_
  rotate_left
  · rintro w' ⟨s0, s1⟩
    go_simp
    with_reducible rfl
  rotate_left
  · simp only [Act.put, List.setIfInBounds_toArray, List.set_cons_zero, List.set_cons_succ, i64_w, i32_w]
    rfl
  refine one_ (i := 1) (N := some 9) #[true, true, true, false, false] rfl rfl (one_of HT_.out (by kernel_rfl)) (by decide) (fun K hK => ?_)
  refine goes_ Tryz.func50 (by kernel_rfl) rfl #[.slice A2 ws.length c2] (by rfl) rfl rfl (by (try simp only [List.map_toArray, List.map_cons, List.map_nil]); rfl) ?_
  refine (impl_sum.calls k A2 c2 ws s wa (Kd.C_below HW.out LA.out) HC.out.2.2 HS.out.1).mono ?_
  rintro e wd ⟨rfl, ⟨nd, rfl⟩⟩
  refine ⟨_, rfl, ?_⟩
  have DD := Aside0.mk (show Below wa.heap.size wa (wa.drewN nd) from pw_below_drewN (Below.refl _ _) _)
  refine hK.out _ _ ⟨(blk_cell (blk_drewN BA2.out _) 0).trans rfl, (blk_cell (blk_drewN BA2.out _) 1).trans rfl⟩ (fun hHeld => ?_)
  clear hK K
  refine norm_ (a' := ?_) ?_ ?_
  rotate_left
  · show Act.put _ (some 9) _ = _
    simp only [Act.put, List.setIfInBounds_toArray, List.set_cons_zero, List.set_cons_succ, i64_w, i32_w]
    rfl
  refine one_ (i := 3) (N := some 11) #[true, true, true, true, false] rfl rfl (one_of HT_.out (by kernel_rfl)) (by decide) (fun K hK => ?_)
  refine goes_ Tryz.func186 (by kernel_rfl) rfl #[.agg #[.slice A0 outer.length c0, .slice A1 inner.length c1]] (by rfl) rfl rfl (by (try simp only [List.map_toArray, List.map_cons, List.map_nil]); rfl) ?_
  refine (impl_CellCount.calls k A0 c0 outer A1 c1 inner c _ (Kd.C_below HO.out (below_step LA.out DD.out)) HC.out.1 (Kd.C_below HI.out (below_step LA.out DD.out)) HC.out.2.1 HS.out.2).mono ?_
  rintro e wb ⟨rfl, hbc⟩
  have hwb := below_step DD.out hbc
  have LB := Aside0.mk (below_step LA.out hwb)
  have BB2 := Aside0.mk (blk_below BA2.out hwb)
  have BB5 := Aside0.mk (blk_below BA5.out hwb)
  have SB := Aside0.mk (Kd.S_below SA.out hwb)
  have ZB := Aside0.mk (show w7.heap.size ≤ g5 ∧ wa.heap.size ≤ wb.heap.size ∧ g5 < wa.heap.size from ⟨ZA.out.1, hwb.size, ZA.out.2⟩)
  clear hwb hbc LA BA2 BA5 SA ZA DD
  refine ⟨_, rfl, ?_⟩
  refine hK.out _ _ ⟨(blk_cell BB2.out 0).trans rfl, (blk_cell BB2.out 1).trans rfl⟩ (fun hHeld => ?_)
  clear hK K
  refine norm_ (a' := ?_) ?_ ?_
  rotate_left
  · show Act.put _ (some 11) _ = _
    simp only [Act.put, List.setIfInBounds_toArray, List.set_cons_zero, List.set_cons_succ, i64_w, i32_w]
    rfl
  refine pure_ (i := 4) (N := some 12) (v := ?_) (a' := ?_) #[true, true, true, true, true] rfl rfl (any_of HT_.out (by kernel_rfl)) (fun _ _ _ h => h) (Or.inl ⟨by rfl, ?_⟩) ?_ ?_
  rotate_left
  · intro w'
    go_simp
    with_reducible rfl
  rotate_left
  · simp only [Act.put, List.setIfInBounds_toArray, List.set_cons_zero, List.set_cons_succ, i64_w, i32_w]
    rfl
  refine done_ (done_of HT_.out (by kernel_rfl)) ?_
  go_wp2
  have LC0 := Aside0.mk (show Below w.heap.size w wb.drew from LB.out.drew)
  refine start_ (n := 10) (S := fun w' => w'.cell? ⟨g2, 0, none⟩ = some (.slice A0 outer.length c0) ∧ w'.cell? ⟨g2, 1, none⟩ = some (.slice A1 inner.length c1)) (ds := []) #[false, false, false, false, false, false, false, false, false, false] (by kernel_rfl) rfl rfl (⟨(blk_cell BB2.out 0).trans rfl, (blk_cell BB2.out 1).trans rfl⟩) (fun hHeld => ?_); refine with_tabW impl_tableaux.tab157_4 impl_tableaux.bits157_4 (fun HT_ HW_ => ?_)
  have LC := Aside0.mk (show Below w.heap.size w wb.drew from LB.out.drew)
  have BC2 := Aside0.mk (blk_drew BB2.out)
  have BC5 := Aside0.mk (blk_drew BB5.out)
  have SC := Aside0.mk (Kd.S_below SB.out (below_drew (Below.refl _ _)))
  have ZC := Aside0.mk (show w7.heap.size ≤ g5 ∧ g5 < wb.drew.heap.size from ⟨ZB.out.1, blk_lt BB5.out⟩)
  generalize wb.drew = wc at LC BC2 BC5 SC ZC hHeld ⊢
  clear LC0 BB2 BB5 SB ZB LB
  refine pure_ (i := 0) (N := some 14) (v := ?_) (a' := ?_) #[true, false, false, false, false, false, false, false, false, false] rfl rfl (any_of HT_.out (by kernel_rfl)) (fun _ _ _ h => h) (Or.inl ⟨by rfl, ?_⟩) ?_ ?_
  rotate_left
  · intro w'
    go_simp
    with_reducible rfl
  rotate_left
  · simp only [Act.put, List.setIfInBounds_toArray, List.set_cons_zero, List.set_cons_succ, i64_w, i32_w]
    rfl
  refine take_ (i := 1) (N := some 15) (v := ?_) (a' := ?_) #[true, true, false, false, false, false, false, false, false, false] rfl rfl (take_ofW HT_.out HW_.out (by kernel_rfl)) (fun _ _ _ h => h) (Or.inl ⟨by rfl, ?_⟩) hHeld ?_ ?_
  rotate_left
  · rintro w' ⟨s0, s1⟩
    go_simp
    with_reducible rfl
  rotate_left
  · simp only [Act.put, List.setIfInBounds_toArray, List.set_cons_zero, List.set_cons_succ, i64_w, i32_w]
    rfl
  refine pure_ (i := 3) (N := some 17) (v := ?_) (a' := ?_) #[true, true, false, true, false, false, false, false, false, false] rfl rfl (any_of HT_.out (by kernel_rfl)) (fun _ _ _ h => h) (Or.inl ⟨by rfl, ?_⟩) ?_ ?_
  rotate_left
  · intro w'
    go_simp
    with_reducible rfl
  rotate_left
  · simp only [Act.put, List.setIfInBounds_toArray, List.set_cons_zero, List.set_cons_succ, i64_w, i32_w]
    rfl
  refine take_ (i := 4) (N := some 18) (v := ?_) (a' := ?_) #[true, true, false, true, true, false, false, false, false, false] rfl rfl (take_ofW HT_.out HW_.out (by kernel_rfl)) (fun _ _ _ h => h) (Or.inl ⟨by rfl, ?_⟩) hHeld ?_ ?_
  rotate_left
  · rintro w' ⟨s0, s1⟩
    go_simp
    with_reducible rfl
  rotate_left
  · simp only [Act.put, List.setIfInBounds_toArray, List.set_cons_zero, List.set_cons_succ, i64_w, i32_w]
    rfl
  refine pure_ (i := 5) (N := some 19) (v := ?_) (a' := ?_) #[true, true, false, true, true, true, false, false, false, false] rfl rfl (any_of HT_.out (by kernel_rfl)) (fun _ _ _ h => h) (Or.inl ⟨by rfl, ?_⟩) ?_ ?_
  rotate_left
  · intro w'
    go_simp
    with_reducible rfl
  rotate_left
  · simp only [Act.put, List.setIfInBounds_toArray, List.set_cons_zero, List.set_cons_succ, i64_w, i32_w]
    rfl
  refine join_ (σ := (Option Addr × Nat) × Nat × Nat) 1 #[true, true, true, true, true, true, true, true, true, false] (fun s => [(16, .slice s.1.1 inner.length s.1.2), (20, .slice (some ⟨s.2.1, 0, none⟩) outer.length outer.length), (6, .pointer (some ⟨s.2.2, 0, none⟩)), (21, .agg #[.slice s.1.1 inner.length s.1.2, .slice (some ⟨s.2.1, 0, none⟩) outer.length outer.length])]) (fun s w' => Kd.R (Kd.int .i64) 3 w' w.heap.size (fun k => k ≠ s.2.1 ∧ k ≠ s.2.2 ∧ wc.heap.size ≤ k) (.slice s.1.1 inner.length s.1.2) inner ∧ w'.heap[s.2.1]? = some (.cells (madeCells #[.slice none 0 0] outer.length) 24 (0, 0)) ∧ w'.heap[s.2.2]? = some (.cells #[.slice none 0 0, .slice none 0 0] 79 (0, 0)) ∧ s.2.1 ≠ s.2.2 ∧ wc.heap.size ≤ s.2.1 ∧ wc.heap.size ≤ s.2.2 ∧ Below wc.heap.size wc w') ?_ ?_
  rotate_left
  · intro hCont
    refine three_ (i := 2) (j := 6) (k := 8) (Ni := some 16) (Nj := some 20) (Nk := some 6) #[true, true, true, true, true, true, false, false, false, false] #[true, true, false, true, true, true, true, false, false, false] #[true, true, false, true, true, true, false, false, true, false] rfl rfl rfl rfl rfl rfl (by kernel_rfl) (by decide) (by decide) (by decide) (fun K hK => ?_) (fun K hK => ?_) (fun K hK => ?_)
    · skip
      refine goes_ Tryz.func49 (by kernel_rfl) rfl #[.slice A1 inner.length c1] (by rfl) rfl rfl (by (try simp only [List.map_toArray, List.map_cons, List.map_nil]); rfl) ?_
      refine (slices_Clone_int_int.calls A1 c1 inner inner wc (Kd.C_below HI.out LC.out) HC.out.2.1 HCL.out).mono ?_
      rintro e wc2 ⟨v0, rfl, hR, hb⟩; obtain ⟨A20, c20, e20⟩ := Kd.R_slice hR; subst e20
      have R2 := Aside0.mk (Kd.R_mono (ok' := fun k => wc.heap.size ≤ k ∧ k < wc2.heap.size) (Kd.R_lower (Kd.R_bound hR) LC.out.size) (fun k hk => ⟨hk.2.1, hk.2.2.1⟩))
      clear hR
      refine ⟨_, rfl, ?_⟩
      have E2 := Aside0.mk (show Below wc.heap.size wc wc2 from hb)
      have Z2 := Aside0.mk hb.size
      clear hb
      refine hK.out _ _ ⟨(blk_cell (blk_below BC2.out E2.out) 0).trans rfl, (blk_cell (blk_below BC2.out E2.out) 1).trans rfl⟩ (fun hHeld => ?_)
      clear hK K
      refine norm_ (a' := ?_) ?_ ?_
      rotate_left
      · show Act.put _ (some 16) _ = _
        simp only [Act.put, List.setIfInBounds_toArray, List.set_cons_zero, List.set_cons_succ, i64_w, i32_w]
        rfl
      refine two_ (i := 6) (j := 8) (Ni := some 20) (Nj := some 6) #[true, true, true, true, true, true, true, false, false, false] #[true, true, true, true, true, true, false, false, true, false] rfl rfl rfl rfl (two_of HT_.out (by kernel_rfl)) (by decide) (by decide) (fun K hK => ?_) (fun K hK => ?_)
      · skip
        refine event_step (by rfl) (w1 := wc2.alloc (Obj.cells (madeCells #[Value.slice none 0 0] outer.length) 24)) (v := .slice (some ⟨wc2.heap.size, 0, none⟩) outer.length outer.length) ?_ ?_
        · have hmk := print_make_of (P := Tryz.prog) 39 24 (.slice none 0 0) 24 Tryz.underlying39 (by kernel_rfl) rfl (by omega) outer.length (by have := HL.out.1; omega) wc2
          go_simp
        obtain ⟨wc26, hwc26⟩ : ∃ W, W = wc2.alloc (Obj.cells (madeCells #[Value.slice none 0 0] outer.length) 24) := ⟨_, rfl⟩
        obtain ⟨gR, hgR⟩ : ∃ g, g = wc2.heap.size := ⟨_, rfl⟩
        rw [← hwc26, ← hgR]
        have hb : Below wc2.heap.size wc2 wc26 := by rw [hwc26]; exact below_alloc (Below.refl _ _) _
        have H6 := Aside0.mk (show wc26.heap[gR]? = some (.cells (madeCells #[.slice none 0 0] outer.length) 24 (0, 0)) by rw [hwc26, hgR]; exact blk_new _ _)
        have N6 := Aside0.mk (show gR = wc2.heap.size ∧ gR < wc26.heap.size from ⟨hgR, blk_lt H6.out⟩)
        clear hgR hwc26
        have E26 := Aside0.mk (show Below wc.heap.size wc wc26 from below_step E2.out hb)
        have Z6 := Aside0.mk hb.size
        replace R2 := Aside0.mk (Kd.R_below R2.out hb)
        clear hb
        refine hK.out _ _ ⟨(blk_cell (blk_below BC2.out E26.out) 0).trans rfl, (blk_cell (blk_below BC2.out E26.out) 1).trans rfl⟩ (fun hHeld => ?_)
        clear hK K
        refine norm_ (a' := ?_) ?_ ?_
        rotate_left
        · show Act.put _ (some 20) _ = _
          simp only [Act.put, List.setIfInBounds_toArray, List.set_cons_zero, List.set_cons_succ, i64_w, i32_w]
          rfl
        refine pure_ (i := 7) (N := some 21) (v := ?_) (a' := ?_) #[true, true, true, true, true, true, true, true, false, false] rfl rfl (any_of HT_.out (by kernel_rfl)) (fun _ _ _ h => h) (Or.inl ⟨by rfl, ?_⟩) ?_ ?_
        rotate_left
        · intro w'
          go_simp
          with_reducible rfl
        rotate_left
        · simp only [Act.put, List.setIfInBounds_toArray, List.set_cons_zero, List.set_cons_succ, i64_w, i32_w]
          rfl
        refine one_ (i := 8) (N := some 6) #[true, true, true, true, true, true, true, true, true, false] rfl rfl (one_of HT_.out (by kernel_rfl)) (by decide) (fun K hK => ?_)
        refine box_step (by rfl) (N := 6) rfl (cs := #[.slice none 0 0, .slice none 0 0]) (t := 79) (by first | (go_simp; done) | (go_simp; rfl)) ?_
        intro g6 h6 wc268 hb6 hb
        have H8 := Aside0.mk hb6
        have N8 := Aside0.mk (show g6 = wc26.heap.size ∧ g6 < wc268.heap.size from ⟨h6, blk_lt hb6⟩)
        clear hb6 h6
        have E268 := Aside0.mk (show Below wc.heap.size wc wc268 from below_step E26.out hb)
        have Z8 := Aside0.mk hb.size
        replace R2 := Aside0.mk (Kd.R_below R2.out hb)
        replace H6 := Aside0.mk (blk_below H6.out hb)
        clear hb
        refine hK.out _ _ ⟨(blk_cell (blk_below BC2.out E268.out) 0).trans rfl, (blk_cell (blk_below BC2.out E268.out) 1).trans rfl⟩ (fun hHeld => ?_)
        clear hK K
        refine norm_ (a' := ?_) ?_ ?_
        rotate_left
        · show Act.put _ (some 6) _ = _
          simp only [Act.put, List.setIfInBounds_toArray, List.set_cons_zero, List.set_cons_succ, i64_w, i32_w]
          rfl
        exact norm_ (by first | (simp only [putAll, Act.put, List.setIfInBounds_toArray, List.set_cons_zero, List.set_cons_succ]; done) | (simp only [putAll, Act.put, List.setIfInBounds_toArray, List.set_cons_zero, List.set_cons_succ]; rfl)) (hCont ((A20, c20), gR, g6) _ ⟨Kd.R_mono R2.out (fun k hk => by have a1 := hk.1; have a2 := hk.2; have a3 := N6.out; have a4 := N8.out; have a5 := Z2.out; have a6 := Z6.out; have a7 := Z8.out; refine ⟨?_, ?_, ?_⟩ <;> first | omega | (simp only; omega)), H6.out, H8.out, by have a3 := N6.out; have a4 := N8.out; have a5 := Z2.out; have a6 := Z6.out; have a7 := Z8.out; first | omega | (simp only; omega), by have a3 := N6.out; have a4 := N8.out; have a5 := Z2.out; have a6 := Z6.out; have a7 := Z8.out; first | omega | (simp only; omega), by have a3 := N6.out; have a4 := N8.out; have a5 := Z2.out; have a6 := Z6.out; have a7 := Z8.out; first | omega | (simp only; omega), E268.out⟩)
      · skip
        refine box_step (by rfl) (N := 6) rfl (cs := #[.slice none 0 0, .slice none 0 0]) (t := 79) (by first | (go_simp; done) | (go_simp; rfl)) ?_
        intro g6 h6 wc28 hb6 hb
        have H8 := Aside0.mk hb6
        have N8 := Aside0.mk (show g6 = wc2.heap.size ∧ g6 < wc28.heap.size from ⟨h6, blk_lt hb6⟩)
        clear hb6 h6
        have E28 := Aside0.mk (show Below wc.heap.size wc wc28 from below_step E2.out hb)
        have Z8 := Aside0.mk hb.size
        replace R2 := Aside0.mk (Kd.R_below R2.out hb)
        clear hb
        refine hK.out _ _ ⟨(blk_cell (blk_below BC2.out E28.out) 0).trans rfl, (blk_cell (blk_below BC2.out E28.out) 1).trans rfl⟩ (fun hHeld => ?_)
        clear hK K
        refine norm_ (a' := ?_) ?_ ?_
        rotate_left
        · show Act.put _ (some 6) _ = _
          simp only [Act.put, List.setIfInBounds_toArray, List.set_cons_zero, List.set_cons_succ, i64_w, i32_w]
          rfl
        refine one_ (i := 6) (N := some 20) #[true, true, true, true, true, true, true, false, true, false] rfl rfl (one_of HT_.out (by kernel_rfl)) (by decide) (fun K hK => ?_)
        refine event_step (by rfl) (w1 := wc28.alloc (Obj.cells (madeCells #[Value.slice none 0 0] outer.length) 24)) (v := .slice (some ⟨wc28.heap.size, 0, none⟩) outer.length outer.length) ?_ ?_
        · have hmk := print_make_of (P := Tryz.prog) 39 24 (.slice none 0 0) 24 Tryz.underlying39 (by kernel_rfl) rfl (by omega) outer.length (by have := HL.out.1; omega) wc28
          go_simp
        obtain ⟨wc286, hwc286⟩ : ∃ W, W = wc28.alloc (Obj.cells (madeCells #[Value.slice none 0 0] outer.length) 24) := ⟨_, rfl⟩
        obtain ⟨gR, hgR⟩ : ∃ g, g = wc28.heap.size := ⟨_, rfl⟩
        rw [← hwc286, ← hgR]
        have hb : Below wc28.heap.size wc28 wc286 := by rw [hwc286]; exact below_alloc (Below.refl _ _) _
        have H6 := Aside0.mk (show wc286.heap[gR]? = some (.cells (madeCells #[.slice none 0 0] outer.length) 24 (0, 0)) by rw [hwc286, hgR]; exact blk_new _ _)
        have N6 := Aside0.mk (show gR = wc28.heap.size ∧ gR < wc286.heap.size from ⟨hgR, blk_lt H6.out⟩)
        clear hgR hwc286
        have E286 := Aside0.mk (show Below wc.heap.size wc wc286 from below_step E28.out hb)
        have Z6 := Aside0.mk hb.size
        replace R2 := Aside0.mk (Kd.R_below R2.out hb)
        replace H8 := Aside0.mk (blk_below H8.out hb)
        clear hb
        refine hK.out _ _ ⟨(blk_cell (blk_below BC2.out E286.out) 0).trans rfl, (blk_cell (blk_below BC2.out E286.out) 1).trans rfl⟩ (fun hHeld => ?_)
        clear hK K
        refine norm_ (a' := ?_) ?_ ?_
        rotate_left
        · show Act.put _ (some 20) _ = _
          simp only [Act.put, List.setIfInBounds_toArray, List.set_cons_zero, List.set_cons_succ, i64_w, i32_w]
          rfl
        refine pure_ (i := 7) (N := some 21) (v := ?_) (a' := ?_) #[true, true, true, true, true, true, true, true, true, false] rfl rfl (any_of HT_.out (by kernel_rfl)) (fun _ _ _ h => h) (Or.inl ⟨by rfl, ?_⟩) ?_ ?_
        rotate_left
        · intro w'
          go_simp
          with_reducible rfl
        rotate_left
        · simp only [Act.put, List.setIfInBounds_toArray, List.set_cons_zero, List.set_cons_succ, i64_w, i32_w]
          rfl
        exact norm_ (by first | (simp only [putAll, Act.put, List.setIfInBounds_toArray, List.set_cons_zero, List.set_cons_succ]; done) | (simp only [putAll, Act.put, List.setIfInBounds_toArray, List.set_cons_zero, List.set_cons_succ]; rfl)) (hCont ((A20, c20), gR, g6) _ ⟨Kd.R_mono R2.out (fun k hk => by have a1 := hk.1; have a2 := hk.2; have a3 := N6.out; have a4 := N8.out; have a5 := Z2.out; have a6 := Z6.out; have a7 := Z8.out; refine ⟨?_, ?_, ?_⟩ <;> first | omega | (simp only; omega)), H6.out, H8.out, by have a3 := N6.out; have a4 := N8.out; have a5 := Z2.out; have a6 := Z6.out; have a7 := Z8.out; first | omega | (simp only; omega), by have a3 := N6.out; have a4 := N8.out; have a5 := Z2.out; have a6 := Z6.out; have a7 := Z8.out; first | omega | (simp only; omega), by have a3 := N6.out; have a4 := N8.out; have a5 := Z2.out; have a6 := Z6.out; have a7 := Z8.out; first | omega | (simp only; omega), E286.out⟩)
    · skip
      refine event_step (by rfl) (w1 := wc.alloc (Obj.cells (madeCells #[Value.slice none 0 0] outer.length) 24)) (v := .slice (some ⟨wc.heap.size, 0, none⟩) outer.length outer.length) ?_ ?_
      · have hmk := print_make_of (P := Tryz.prog) 39 24 (.slice none 0 0) 24 Tryz.underlying39 (by kernel_rfl) rfl (by omega) outer.length (by have := HL.out.1; omega) wc
        go_simp
      obtain ⟨wc6, hwc6⟩ : ∃ W, W = wc.alloc (Obj.cells (madeCells #[Value.slice none 0 0] outer.length) 24) := ⟨_, rfl⟩
      obtain ⟨gR, hgR⟩ : ∃ g, g = wc.heap.size := ⟨_, rfl⟩
      rw [← hwc6, ← hgR]
      have hb : Below wc.heap.size wc wc6 := by rw [hwc6]; exact below_alloc (Below.refl _ _) _
      have H6 := Aside0.mk (show wc6.heap[gR]? = some (.cells (madeCells #[.slice none 0 0] outer.length) 24 (0, 0)) by rw [hwc6, hgR]; exact blk_new _ _)
      have N6 := Aside0.mk (show gR = wc.heap.size ∧ gR < wc6.heap.size from ⟨hgR, blk_lt H6.out⟩)
      clear hgR hwc6
      have E6 := Aside0.mk (show Below wc.heap.size wc wc6 from hb)
      have Z6 := Aside0.mk hb.size
      clear hb
      refine hK.out _ _ ⟨(blk_cell (blk_below BC2.out E6.out) 0).trans rfl, (blk_cell (blk_below BC2.out E6.out) 1).trans rfl⟩ (fun hHeld => ?_)
      clear hK K
      refine norm_ (a' := ?_) ?_ ?_
      rotate_left
      · show Act.put _ (some 20) _ = _
        simp only [Act.put, List.setIfInBounds_toArray, List.set_cons_zero, List.set_cons_succ, i64_w, i32_w]
        rfl
      refine two_ (i := 2) (j := 8) (Ni := some 16) (Nj := some 6) #[true, true, true, true, true, true, true, false, false, false] #[true, true, false, true, true, true, true, false, true, false] rfl rfl rfl rfl (two_of HT_.out (by kernel_rfl)) (by decide) (by decide) (fun K hK => ?_) (fun K hK => ?_)
      · skip
        refine goes_ Tryz.func49 (by kernel_rfl) rfl #[.slice A1 inner.length c1] (by rfl) rfl rfl (by (try simp only [List.map_toArray, List.map_cons, List.map_nil]); rfl) ?_
        refine (slices_Clone_int_int.calls A1 c1 inner inner wc6 (Kd.C_below HI.out (below_step LC.out E6.out)) HC.out.2.1 HCL.out).mono ?_
        rintro e wc62 ⟨v0, rfl, hR, hb⟩; obtain ⟨A20, c20, e20⟩ := Kd.R_slice hR; subst e20
        have R2 := Aside0.mk (Kd.R_mono (ok' := fun k => wc6.heap.size ≤ k ∧ k < wc62.heap.size) (Kd.R_lower (Kd.R_bound hR) (below_step LC.out E6.out).size) (fun k hk => ⟨hk.2.1, hk.2.2.1⟩))
        clear hR
        refine ⟨_, rfl, ?_⟩
        have E62 := Aside0.mk (show Below wc.heap.size wc wc62 from below_step E6.out hb)
        have Z2 := Aside0.mk hb.size
        replace H6 := Aside0.mk (blk_below H6.out hb)
        clear hb
        refine hK.out _ _ ⟨(blk_cell (blk_below BC2.out E62.out) 0).trans rfl, (blk_cell (blk_below BC2.out E62.out) 1).trans rfl⟩ (fun hHeld => ?_)
        clear hK K
        refine norm_ (a' := ?_) ?_ ?_
        rotate_left
        · show Act.put _ (some 16) _ = _
          simp only [Act.put, List.setIfInBounds_toArray, List.set_cons_zero, List.set_cons_succ, i64_w, i32_w]
          rfl
        refine pure_ (i := 7) (N := some 21) (v := ?_) (a' := ?_) #[true, true, true, true, true, true, true, true, false, false] rfl rfl (any_of HT_.out (by kernel_rfl)) (fun _ _ _ h => h) (Or.inl ⟨by rfl, ?_⟩) ?_ ?_
        rotate_left
        · intro w'
          go_simp
          with_reducible rfl
        rotate_left
        · simp only [Act.put, List.setIfInBounds_toArray, List.set_cons_zero, List.set_cons_succ, i64_w, i32_w]
          rfl
        refine one_ (i := 8) (N := some 6) #[true, true, true, true, true, true, true, true, true, false] rfl rfl (one_of HT_.out (by kernel_rfl)) (by decide) (fun K hK => ?_)
        refine box_step (by rfl) (N := 6) rfl (cs := #[.slice none 0 0, .slice none 0 0]) (t := 79) (by first | (go_simp; done) | (go_simp; rfl)) ?_
        intro g6 h6 wc628 hb6 hb
        have H8 := Aside0.mk hb6
        have N8 := Aside0.mk (show g6 = wc62.heap.size ∧ g6 < wc628.heap.size from ⟨h6, blk_lt hb6⟩)
        clear hb6 h6
        have E628 := Aside0.mk (show Below wc.heap.size wc wc628 from below_step E62.out hb)
        have Z8 := Aside0.mk hb.size
        replace H6 := Aside0.mk (blk_below H6.out hb)
        replace R2 := Aside0.mk (Kd.R_below R2.out hb)
        clear hb
        refine hK.out _ _ ⟨(blk_cell (blk_below BC2.out E628.out) 0).trans rfl, (blk_cell (blk_below BC2.out E628.out) 1).trans rfl⟩ (fun hHeld => ?_)
        clear hK K
        refine norm_ (a' := ?_) ?_ ?_
        rotate_left
        · show Act.put _ (some 6) _ = _
          simp only [Act.put, List.setIfInBounds_toArray, List.set_cons_zero, List.set_cons_succ, i64_w, i32_w]
          rfl
        exact norm_ (by first | (simp only [putAll, Act.put, List.setIfInBounds_toArray, List.set_cons_zero, List.set_cons_succ]; done) | (simp only [putAll, Act.put, List.setIfInBounds_toArray, List.set_cons_zero, List.set_cons_succ]; rfl)) (hCont ((A20, c20), gR, g6) _ ⟨Kd.R_mono R2.out (fun k hk => by have a1 := hk.1; have a2 := hk.2; have a3 := N6.out; have a4 := N8.out; have a5 := Z2.out; have a6 := Z6.out; have a7 := Z8.out; refine ⟨?_, ?_, ?_⟩ <;> first | omega | (simp only; omega)), H6.out, H8.out, by have a3 := N6.out; have a4 := N8.out; have a5 := Z2.out; have a6 := Z6.out; have a7 := Z8.out; first | omega | (simp only; omega), by have a3 := N6.out; have a4 := N8.out; have a5 := Z2.out; have a6 := Z6.out; have a7 := Z8.out; first | omega | (simp only; omega), by have a3 := N6.out; have a4 := N8.out; have a5 := Z2.out; have a6 := Z6.out; have a7 := Z8.out; first | omega | (simp only; omega), E628.out⟩)
      · skip
        refine box_step (by rfl) (N := 6) rfl (cs := #[.slice none 0 0, .slice none 0 0]) (t := 79) (by first | (go_simp; done) | (go_simp; rfl)) ?_
        intro g6 h6 wc68 hb6 hb
        have H8 := Aside0.mk hb6
        have N8 := Aside0.mk (show g6 = wc6.heap.size ∧ g6 < wc68.heap.size from ⟨h6, blk_lt hb6⟩)
        clear hb6 h6
        have E68 := Aside0.mk (show Below wc.heap.size wc wc68 from below_step E6.out hb)
        have Z8 := Aside0.mk hb.size
        replace H6 := Aside0.mk (blk_below H6.out hb)
        clear hb
        refine hK.out _ _ ⟨(blk_cell (blk_below BC2.out E68.out) 0).trans rfl, (blk_cell (blk_below BC2.out E68.out) 1).trans rfl⟩ (fun hHeld => ?_)
        clear hK K
        refine norm_ (a' := ?_) ?_ ?_
        rotate_left
        · show Act.put _ (some 6) _ = _
          simp only [Act.put, List.setIfInBounds_toArray, List.set_cons_zero, List.set_cons_succ, i64_w, i32_w]
          rfl
        refine one_ (i := 2) (N := some 16) #[true, true, true, true, true, true, true, false, true, false] rfl rfl (one_of HT_.out (by kernel_rfl)) (by decide) (fun K hK => ?_)
        refine goes_ Tryz.func49 (by kernel_rfl) rfl #[.slice A1 inner.length c1] (by rfl) rfl rfl (by (try simp only [List.map_toArray, List.map_cons, List.map_nil]); rfl) ?_
        refine (slices_Clone_int_int.calls A1 c1 inner inner wc68 (Kd.C_below HI.out (below_step LC.out E68.out)) HC.out.2.1 HCL.out).mono ?_
        rintro e wc682 ⟨v0, rfl, hR, hb⟩; obtain ⟨A20, c20, e20⟩ := Kd.R_slice hR; subst e20
        have R2 := Aside0.mk (Kd.R_mono (ok' := fun k => wc68.heap.size ≤ k ∧ k < wc682.heap.size) (Kd.R_lower (Kd.R_bound hR) (below_step LC.out E68.out).size) (fun k hk => ⟨hk.2.1, hk.2.2.1⟩))
        clear hR
        refine ⟨_, rfl, ?_⟩
        have E682 := Aside0.mk (show Below wc.heap.size wc wc682 from below_step E68.out hb)
        have Z2 := Aside0.mk hb.size
        replace H6 := Aside0.mk (blk_below H6.out hb)
        replace H8 := Aside0.mk (blk_below H8.out hb)
        clear hb
        refine hK.out _ _ ⟨(blk_cell (blk_below BC2.out E682.out) 0).trans rfl, (blk_cell (blk_below BC2.out E682.out) 1).trans rfl⟩ (fun hHeld => ?_)
        clear hK K
        refine norm_ (a' := ?_) ?_ ?_
        rotate_left
        · show Act.put _ (some 16) _ = _
          simp only [Act.put, List.setIfInBounds_toArray, List.set_cons_zero, List.set_cons_succ, i64_w, i32_w]
          rfl
        refine pure_ (i := 7) (N := some 21) (v := ?_) (a' := ?_) #[true, true, true, true, true, true, true, true, true, false] rfl rfl (any_of HT_.out (by kernel_rfl)) (fun _ _ _ h => h) (Or.inl ⟨by rfl, ?_⟩) ?_ ?_
        rotate_left
        · intro w'
          go_simp
          with_reducible rfl
        rotate_left
        · simp only [Act.put, List.setIfInBounds_toArray, List.set_cons_zero, List.set_cons_succ, i64_w, i32_w]
          rfl
        exact norm_ (by first | (simp only [putAll, Act.put, List.setIfInBounds_toArray, List.set_cons_zero, List.set_cons_succ]; done) | (simp only [putAll, Act.put, List.setIfInBounds_toArray, List.set_cons_zero, List.set_cons_succ]; rfl)) (hCont ((A20, c20), gR, g6) _ ⟨Kd.R_mono R2.out (fun k hk => by have a1 := hk.1; have a2 := hk.2; have a3 := N6.out; have a4 := N8.out; have a5 := Z2.out; have a6 := Z6.out; have a7 := Z8.out; refine ⟨?_, ?_, ?_⟩ <;> first | omega | (simp only; omega)), H6.out, H8.out, by have a3 := N6.out; have a4 := N8.out; have a5 := Z2.out; have a6 := Z6.out; have a7 := Z8.out; first | omega | (simp only; omega), by have a3 := N6.out; have a4 := N8.out; have a5 := Z2.out; have a6 := Z6.out; have a7 := Z8.out; first | omega | (simp only; omega), by have a3 := N6.out; have a4 := N8.out; have a5 := Z2.out; have a6 := Z6.out; have a7 := Z8.out; first | omega | (simp only; omega), E682.out⟩)
    · skip
      refine box_step (by rfl) (N := 6) rfl (cs := #[.slice none 0 0, .slice none 0 0]) (t := 79) (by first | (go_simp; done) | (go_simp; rfl)) ?_
      intro g6 h6 wc8 hb6 hb
      have H8 := Aside0.mk hb6
      have N8 := Aside0.mk (show g6 = wc.heap.size ∧ g6 < wc8.heap.size from ⟨h6, blk_lt hb6⟩)
      clear hb6 h6
      have E8 := Aside0.mk (show Below wc.heap.size wc wc8 from hb)
      have Z8 := Aside0.mk hb.size
      clear hb
      refine hK.out _ _ ⟨(blk_cell (blk_below BC2.out E8.out) 0).trans rfl, (blk_cell (blk_below BC2.out E8.out) 1).trans rfl⟩ (fun hHeld => ?_)
      clear hK K
      refine norm_ (a' := ?_) ?_ ?_
      rotate_left
      · show Act.put _ (some 6) _ = _
        simp only [Act.put, List.setIfInBounds_toArray, List.set_cons_zero, List.set_cons_succ, i64_w, i32_w]
        rfl
      refine two_ (i := 2) (j := 6) (Ni := some 16) (Nj := some 20) #[true, true, true, true, true, true, false, false, true, false] #[true, true, false, true, true, true, true, false, true, false] rfl rfl rfl rfl (two_of HT_.out (by kernel_rfl)) (by decide) (by decide) (fun K hK => ?_) (fun K hK => ?_)
      · skip
        refine goes_ Tryz.func49 (by kernel_rfl) rfl #[.slice A1 inner.length c1] (by rfl) rfl rfl (by (try simp only [List.map_toArray, List.map_cons, List.map_nil]); rfl) ?_
        refine (slices_Clone_int_int.calls A1 c1 inner inner wc8 (Kd.C_below HI.out (below_step LC.out E8.out)) HC.out.2.1 HCL.out).mono ?_
        rintro e wc82 ⟨v0, rfl, hR, hb⟩; obtain ⟨A20, c20, e20⟩ := Kd.R_slice hR; subst e20
        have R2 := Aside0.mk (Kd.R_mono (ok' := fun k => wc8.heap.size ≤ k ∧ k < wc82.heap.size) (Kd.R_lower (Kd.R_bound hR) (below_step LC.out E8.out).size) (fun k hk => ⟨hk.2.1, hk.2.2.1⟩))
        clear hR
        refine ⟨_, rfl, ?_⟩
        have E82 := Aside0.mk (show Below wc.heap.size wc wc82 from below_step E8.out hb)
        have Z2 := Aside0.mk hb.size
        replace H8 := Aside0.mk (blk_below H8.out hb)
        clear hb
        refine hK.out _ _ ⟨(blk_cell (blk_below BC2.out E82.out) 0).trans rfl, (blk_cell (blk_below BC2.out E82.out) 1).trans rfl⟩ (fun hHeld => ?_)
        clear hK K
        refine norm_ (a' := ?_) ?_ ?_
        rotate_left
        · show Act.put _ (some 16) _ = _
          simp only [Act.put, List.setIfInBounds_toArray, List.set_cons_zero, List.set_cons_succ, i64_w, i32_w]
          rfl
        refine one_ (i := 6) (N := some 20) #[true, true, true, true, true, true, true, false, true, false] rfl rfl (one_of HT_.out (by kernel_rfl)) (by decide) (fun K hK => ?_)
        refine event_step (by rfl) (w1 := wc82.alloc (Obj.cells (madeCells #[Value.slice none 0 0] outer.length) 24)) (v := .slice (some ⟨wc82.heap.size, 0, none⟩) outer.length outer.length) ?_ ?_
        · have hmk := print_make_of (P := Tryz.prog) 39 24 (.slice none 0 0) 24 Tryz.underlying39 (by kernel_rfl) rfl (by omega) outer.length (by have := HL.out.1; omega) wc82
          go_simp
        obtain ⟨wc826, hwc826⟩ : ∃ W, W = wc82.alloc (Obj.cells (madeCells #[Value.slice none 0 0] outer.length) 24) := ⟨_, rfl⟩
        obtain ⟨gR, hgR⟩ : ∃ g, g = wc82.heap.size := ⟨_, rfl⟩
        rw [← hwc826, ← hgR]
        have hb : Below wc82.heap.size wc82 wc826 := by rw [hwc826]; exact below_alloc (Below.refl _ _) _
        have H6 := Aside0.mk (show wc826.heap[gR]? = some (.cells (madeCells #[.slice none 0 0] outer.length) 24 (0, 0)) by rw [hwc826, hgR]; exact blk_new _ _)
        have N6 := Aside0.mk (show gR = wc82.heap.size ∧ gR < wc826.heap.size from ⟨hgR, blk_lt H6.out⟩)
        clear hgR hwc826
        have E826 := Aside0.mk (show Below wc.heap.size wc wc826 from below_step E82.out hb)
        have Z6 := Aside0.mk hb.size
        replace H8 := Aside0.mk (blk_below H8.out hb)
        replace R2 := Aside0.mk (Kd.R_below R2.out hb)
        clear hb
        refine hK.out _ _ ⟨(blk_cell (blk_below BC2.out E826.out) 0).trans rfl, (blk_cell (blk_below BC2.out E826.out) 1).trans rfl⟩ (fun hHeld => ?_)
        clear hK K
        refine norm_ (a' := ?_) ?_ ?_
        rotate_left
        · show Act.put _ (some 20) _ = _
          simp only [Act.put, List.setIfInBounds_toArray, List.set_cons_zero, List.set_cons_succ, i64_w, i32_w]
          rfl
        refine pure_ (i := 7) (N := some 21) (v := ?_) (a' := ?_) #[true, true, true, true, true, true, true, true, true, false] rfl rfl (any_of HT_.out (by kernel_rfl)) (fun _ _ _ h => h) (Or.inl ⟨by rfl, ?_⟩) ?_ ?_
        rotate_left
        · intro w'
          go_simp
          with_reducible rfl
        rotate_left
        · simp only [Act.put, List.setIfInBounds_toArray, List.set_cons_zero, List.set_cons_succ, i64_w, i32_w]
          rfl
        exact norm_ (by first | (simp only [putAll, Act.put, List.setIfInBounds_toArray, List.set_cons_zero, List.set_cons_succ]; done) | (simp only [putAll, Act.put, List.setIfInBounds_toArray, List.set_cons_zero, List.set_cons_succ]; rfl)) (hCont ((A20, c20), gR, g6) _ ⟨Kd.R_mono R2.out (fun k hk => by have a1 := hk.1; have a2 := hk.2; have a3 := N6.out; have a4 := N8.out; have a5 := Z2.out; have a6 := Z6.out; have a7 := Z8.out; refine ⟨?_, ?_, ?_⟩ <;> first | omega | (simp only; omega)), H6.out, H8.out, by have a3 := N6.out; have a4 := N8.out; have a5 := Z2.out; have a6 := Z6.out; have a7 := Z8.out; first | omega | (simp only; omega), by have a3 := N6.out; have a4 := N8.out; have a5 := Z2.out; have a6 := Z6.out; have a7 := Z8.out; first | omega | (simp only; omega), by have a3 := N6.out; have a4 := N8.out; have a5 := Z2.out; have a6 := Z6.out; have a7 := Z8.out; first | omega | (simp only; omega), E826.out⟩)
      · skip
        refine event_step (by rfl) (w1 := wc8.alloc (Obj.cells (madeCells #[Value.slice none 0 0] outer.length) 24)) (v := .slice (some ⟨wc8.heap.size, 0, none⟩) outer.length outer.length) ?_ ?_
        · have hmk := print_make_of (P := Tryz.prog) 39 24 (.slice none 0 0) 24 Tryz.underlying39 (by kernel_rfl) rfl (by omega) outer.length (by have := HL.out.1; omega) wc8
          go_simp
        obtain ⟨wc86, hwc86⟩ : ∃ W, W = wc8.alloc (Obj.cells (madeCells #[Value.slice none 0 0] outer.length) 24) := ⟨_, rfl⟩
        obtain ⟨gR, hgR⟩ : ∃ g, g = wc8.heap.size := ⟨_, rfl⟩
        rw [← hwc86, ← hgR]
        have hb : Below wc8.heap.size wc8 wc86 := by rw [hwc86]; exact below_alloc (Below.refl _ _) _
        have H6 := Aside0.mk (show wc86.heap[gR]? = some (.cells (madeCells #[.slice none 0 0] outer.length) 24 (0, 0)) by rw [hwc86, hgR]; exact blk_new _ _)
        have N6 := Aside0.mk (show gR = wc8.heap.size ∧ gR < wc86.heap.size from ⟨hgR, blk_lt H6.out⟩)
        clear hgR hwc86
        have E86 := Aside0.mk (show Below wc.heap.size wc wc86 from below_step E8.out hb)
        have Z6 := Aside0.mk hb.size
        replace H8 := Aside0.mk (blk_below H8.out hb)
        clear hb
        refine hK.out _ _ ⟨(blk_cell (blk_below BC2.out E86.out) 0).trans rfl, (blk_cell (blk_below BC2.out E86.out) 1).trans rfl⟩ (fun hHeld => ?_)
        clear hK K
        refine norm_ (a' := ?_) ?_ ?_
        rotate_left
        · show Act.put _ (some 20) _ = _
          simp only [Act.put, List.setIfInBounds_toArray, List.set_cons_zero, List.set_cons_succ, i64_w, i32_w]
          rfl
        refine one_ (i := 2) (N := some 16) #[true, true, true, true, true, true, true, false, true, false] rfl rfl (one_of HT_.out (by kernel_rfl)) (by decide) (fun K hK => ?_)
        refine goes_ Tryz.func49 (by kernel_rfl) rfl #[.slice A1 inner.length c1] (by rfl) rfl rfl (by (try simp only [List.map_toArray, List.map_cons, List.map_nil]); rfl) ?_
        refine (slices_Clone_int_int.calls A1 c1 inner inner wc86 (Kd.C_below HI.out (below_step LC.out E86.out)) HC.out.2.1 HCL.out).mono ?_
        rintro e wc862 ⟨v0, rfl, hR, hb⟩; obtain ⟨A20, c20, e20⟩ := Kd.R_slice hR; subst e20
        have R2 := Aside0.mk (Kd.R_mono (ok' := fun k => wc86.heap.size ≤ k ∧ k < wc862.heap.size) (Kd.R_lower (Kd.R_bound hR) (below_step LC.out E86.out).size) (fun k hk => ⟨hk.2.1, hk.2.2.1⟩))
        clear hR
        refine ⟨_, rfl, ?_⟩
        have E862 := Aside0.mk (show Below wc.heap.size wc wc862 from below_step E86.out hb)
        have Z2 := Aside0.mk hb.size
        replace H8 := Aside0.mk (blk_below H8.out hb)
        replace H6 := Aside0.mk (blk_below H6.out hb)
        clear hb
        refine hK.out _ _ ⟨(blk_cell (blk_below BC2.out E862.out) 0).trans rfl, (blk_cell (blk_below BC2.out E862.out) 1).trans rfl⟩ (fun hHeld => ?_)
        clear hK K
        refine norm_ (a' := ?_) ?_ ?_
        rotate_left
        · show Act.put _ (some 16) _ = _
          simp only [Act.put, List.setIfInBounds_toArray, List.set_cons_zero, List.set_cons_succ, i64_w, i32_w]
          rfl
        refine pure_ (i := 7) (N := some 21) (v := ?_) (a' := ?_) #[true, true, true, true, true, true, true, true, true, false] rfl rfl (any_of HT_.out (by kernel_rfl)) (fun _ _ _ h => h) (Or.inl ⟨by rfl, ?_⟩) ?_ ?_
        rotate_left
        · intro w'
          go_simp
          with_reducible rfl
        rotate_left
        · simp only [Act.put, List.setIfInBounds_toArray, List.set_cons_zero, List.set_cons_succ, i64_w, i32_w]
          rfl
        exact norm_ (by first | (simp only [putAll, Act.put, List.setIfInBounds_toArray, List.set_cons_zero, List.set_cons_succ]; done) | (simp only [putAll, Act.put, List.setIfInBounds_toArray, List.set_cons_zero, List.set_cons_succ]; rfl)) (hCont ((A20, c20), gR, g6) _ ⟨Kd.R_mono R2.out (fun k hk => by have a1 := hk.1; have a2 := hk.2; have a3 := N6.out; have a4 := N8.out; have a5 := Z2.out; have a6 := Z6.out; have a7 := Z8.out; refine ⟨?_, ?_, ?_⟩ <;> first | omega | (simp only; omega)), H6.out, H8.out, by have a3 := N6.out; have a4 := N8.out; have a5 := Z2.out; have a6 := Z6.out; have a7 := Z8.out; first | omega | (simp only; omega), by have a3 := N6.out; have a4 := N8.out; have a5 := Z2.out; have a6 := Z6.out; have a7 := Z8.out; first | omega | (simp only; omega), by have a3 := N6.out; have a4 := N8.out; have a5 := Z2.out; have a6 := Z6.out; have a7 := Z8.out; first | omega | (simp only; omega), E862.out⟩)
  rintro ⟨⟨At, ct⟩, gR, g6⟩ wd ⟨hR, hgr, hb6, hgne, hgs, hgs6, hb⟩
  simp only at hR hgr hb6 hgne hgs hgs6
  have B6 := Aside0.mk hb6
  have RD := Aside0.mk hR
  have GD := Aside0.mk hgr
  have LD := Aside0.mk (below_step LC.out hb)
  have BD2 := Aside0.mk (blk_below BC2.out hb)
  have BD5 := Aside0.mk (blk_below BC5.out hb)
  have SD := Aside0.mk (Kd.S_below SC.out hb)
  have NE := Aside0.mk (show g2 ≠ g6 ∧ g5 ≠ g6 ∧ gR ≠ g6 ∧ g5 ≠ gR ∧ w7.heap.size ≤ g5 ∧ w7.heap.size ≤ gR ∧ w.heap.size ≤ g6 ∧ w.heap.size ≤ gR ∧ w7.heap.size ≤ g6 by
    have h1 := blk_lt BC2.out; have h2 := ZC.out; have h3 := LC.out.size; refine ⟨?_, ?_, ?_, ?_, ?_, ?_, ?_, ?_, ?_⟩ <;> omega)
  clear hR hgr hgs hgs6 hgne hb6 hb LC BC2 BC5 SC
  have hHeld : wd.cell? ⟨g2, 0, none⟩ = some (.slice A0 outer.length c0) ∧ wd.cell? ⟨g2, 1, none⟩ = some (.slice A1 inner.length c1) := ⟨(blk_cell BD2.out 0).trans rfl, (blk_cell BD2.out 1).trans rfl⟩
  refine norm_ (a' := ?_) ?_ ?_
  rotate_left
  · simp only [putAll, Act.put, List.setIfInBounds_toArray, List.set_cons_zero, List.set_cons_succ]
    rfl
  refine one_ (i := 9) (N := none) #[true, true, true, true, true, true, true, true, true, true] rfl rfl (one_of HT_.out (by kernel_rfl)) (by decide) (fun K hK => ?_)
  have hs0 : wd.cell? ⟨g6, 0, none⟩ = some (.slice none 0 0) := (blk_cell B6.out 0).trans rfl
  have hs1 : wd.cell? ⟨g6, 1, none⟩ = some (.slice none 0 0) := (blk_cell B6.out 1).trans rfl
  have hf0 := blk_frozen B6.out 0
  have hf1 := blk_frozen B6.out 1
  refine skip_ (w1 := (wd.setCell ⟨g6, 0, none⟩ (.slice At inner.length ct)).setCell ⟨g6, 1, none⟩ (.slice (some ⟨gR, 0, none⟩) outer.length outer.length)) (by rfl) rfl ?_ ?_
  · go_simp
  clear hs0 hs1 hf0 hf1
  have BF6 := Aside0.mk (show ((wd.setCell ⟨g6, 0, none⟩ (.slice At inner.length ct)).setCell ⟨g6, 1, none⟩ (.slice (some ⟨gR, 0, none⟩) outer.length outer.length)).heap[g6]? = some (.cells #[.slice At inner.length ct, .slice (some ⟨gR, 0, none⟩) outer.length outer.length] 79 (0, 0)) from blk_put (blk_put B6.out 0 _ rfl) 1 _ rfl)
  have BF2 := Aside0.mk (blk_far (blk_far BD2.out (p := ⟨g6, 0, none⟩) NE.out.1 (.slice At inner.length ct)) (p := ⟨g6, 1, none⟩) NE.out.1 (.slice (some ⟨gR, 0, none⟩) outer.length outer.length))
  have BF5 := Aside0.mk (blk_far (blk_far BD5.out (p := ⟨g6, 0, none⟩) NE.out.2.1 (.slice At inner.length ct)) (p := ⟨g6, 1, none⟩) NE.out.2.1 (.slice (some ⟨gR, 0, none⟩) outer.length outer.length))
  have GF := Aside0.mk (blk_far (blk_far GD.out (p := ⟨g6, 0, none⟩) NE.out.2.2.1 (.slice At inner.length ct)) (p := ⟨g6, 1, none⟩) NE.out.2.2.1 (.slice (some ⟨gR, 0, none⟩) outer.length outer.length))
  have LF := Aside0.mk (show Below w.heap.size w ((wd.setCell ⟨g6, 0, none⟩ (.slice At inner.length ct)).setCell ⟨g6, 1, none⟩ (.slice (some ⟨gR, 0, none⟩) outer.length outer.length)) from (LD.out.setCell NE.out.2.2.2.2.2.2.1 _).setCell NE.out.2.2.2.2.2.2.1 _)
  have RF := Aside0.mk (Kd.R_far (p := ⟨g6, 1, none⟩) (Kd.R_far (p := ⟨g6, 0, none⟩) RD.out (fun k hk => hk.2.1) (.slice At inner.length ct)) (fun k hk => hk.2.1) (.slice (some ⟨gR, 0, none⟩) outer.length outer.length))
  have SF := Aside0.mk (Kd.S_far (p := ⟨g6, 1, none⟩) (Kd.S_far (p := ⟨g6, 0, none⟩) SD.out (fun k hk e => by have h1 := hk.2; have h2 := NE.out; simp only at e; omega) (.slice At inner.length ct)) (fun k hk e => by have h1 := hk.2; have h2 := NE.out; simp only at e; omega) (.slice (some ⟨gR, 0, none⟩) outer.length outer.length))
  refine hK.out _ _ ⟨(blk_cell BF2.out 0).trans rfl, (blk_cell BF2.out 1).trans rfl⟩ (fun hHeld => ?_)
  clear hK K
  refine done_ (done_of HT_.out (by kernel_rfl)) ?_
  clear hHeld B6 GD RD SD BD2 BD5 LD
  generalize (wd.setCell ⟨g6, 0, none⟩ (.slice At inner.length ct)).setCell ⟨g6, 1, none⟩ (.slice (some ⟨gR, 0, none⟩) outer.length outer.length) = wf at BF6 BF2 BF5 GF LF RF SF ⊢
  have hST : impl_grow.St wf w.heap.size g5 gR (fun k => k = gR) (fun k => w2.heap.size ≤ k ∧ k < w7.heap.size) (List.replicate outer.length []) [] := ⟨impl_tableaux.rowsAt_new rfl NE.out.2.2.2.2.2.2.2.1 GF.out, ⟨_, BF5.out, SF.out⟩, fun k hk h2 => by have := NE.out; omega, NE.out.2.2.2.1, fun h => by have := NE.out; omega, HG5.out, fun k hk => by
      have h1 := blk_lt GF.out; have h2 := blk_lt BF5.out; have h3 := NE.out; rcases hk with h | h <;> omega, fun v hv => by
      rw [BF5.out] at hv
      obtain rfl : Value.slice A7 n7 c7 = v := by simpa using hv
      exact VN.out⟩
  have hM : ∀ k, impl_grow.Mg g5 (fun k => k = gR) (fun k => w2.heap.size ≤ k ∧ k < w7.heap.size) k → w.heap.size ≤ k := fun k hk => by
    have h1 := NE.out; have h2 := HG5.out; have h3 := Z2.out
    rcases hk with h | h | h <;> omega
  have hRk : ∀ k, (k ≠ gR ∧ k ≠ g6 ∧ wc.heap.size ≤ k) → ¬ impl_grow.Mg g5 (fun k => k = gR) (fun k => w2.heap.size ≤ k ∧ k < w7.heap.size) k := fun k hk h => by
    have h1 := ZC.out; have h2 := NE.out
    rcases h with h | h | h <;> omega
  have hgrow := (impl_grow.ok w.heap.size g5 gR outer inner A0 A1 At c0 c1 ct HC.out.1 HC.out.2.1 (Kd.R_reads' RF.out).2.1 HBW.out.1 HBW.out.2.1 HL.out.1 HL.out.2.1 ws HBW.out.2.2) 1 (List.replicate outer.length []) [] _ _ wf A2 c2 hST (by simp) (fun r hr => by rw [(List.mem_replicate.1 hr).2]; have := HL.out.2.2.2; simp; omega) (by omega) (by have := HL.out.2.2.1; omega) (by have := HGL.out; simpa using this)
    (Kd.C_kept_came (Kd.heap_int _) HO.out LF.out hM) (Kd.C_kept_came (Kd.heap_int _) HI.out LF.out hM) (Kd.C_kept_own RF.out hRk) (Kd.C_kept_came (Kd.heap_int _) HW.out LF.out hM) HC.out.2.2
  have HGROW := Aside0.mk hgrow
  clear hgrow hST hM hRk
  have x2 := (blk_cell BF2.out 0).trans rfl
  have y2 := (blk_cell BF2.out 1).trans rfl
  have x6 := (blk_cell BF6.out 0).trans rfl
  have y6 := (blk_cell BF6.out 1).trans rfl
  go_wp2_with (first
    | ((with_reducible refine gate_callee (f := 187) rfl ?_); refine goesL_ (some 26) rfl rfl Tryz.func187 (by kernel_rfl) rfl #[.agg #[.slice A0 outer.length c0, .slice A1 inner.length c1], .agg #[.slice At inner.length ct, .slice (some ⟨gR, 0, none⟩) outer.length outer.length], .int .i64 1, .slice A2 ws.length c2, .func (.func 188) #[] #[.pointer (some ⟨g5, 0, none⟩)]] rfl (by (try simp only [List.map_toArray, List.map_cons, List.map_nil]); rfl) ?_; refine HGROW.out.mono ?_; rintro e wg ⟨rfl, hD⟩; refine ⟨_, rfl, ?_⟩; obtain ⟨T', O', hst, hk, hM, hb⟩ := hD; obtain ⟨vs, hvs, hS⟩ := hst.out; have hmd := hst.made vs hvs; have SG := Aside0.mk hS; have BG5 := Aside0.mk hvs; have MG := Aside0.mk hmd; have NG := Aside0.mk (And.intro hst.goO hM); have LG := Aside0.mk (show Below w.heap.size w wg from LF.out.trans hb); clear hst hk hM hb hvs hS hmd x2 y2 x6 y6; rw [List.nil_append] at SG; obtain ⟨gs, cs, hvs2, hOg⟩ := impl_tableaux.S_at SG.out MG.out; subst hvs2; have HOG := Aside0.mk (show g5 ≠ gs from fun e => NG.out.1 (e ▸ hOg)); clear hOg; have x5 := (blk_cell BG5.out 0).trans rfl)
    | ((with_reducible refine gate_callee (f := 189) rfl ?_); refine goesL_ (some 28) rfl rfl Tryz.func189 (by kernel_rfl) rfl #[.slice (some ⟨gs, 0, none⟩) (Gr.growL outer inner ws (List.replicate outer.length []) 1).length cs, .func (.func 190) #[] #[]] rfl (by (try simp only [List.map_toArray, List.map_cons, List.map_nil]); rfl) ?_; have hsort := (impl_tableaux_2.sort_S wg gs cs w.heap.size k O' _ SG.out HT.out.1 (by have := HGL.out; rw [List.length_map]; omega) (fun x hx => by obtain ⟨r, hr, rfl⟩ := List.mem_map.1 hx; exact HT.out.2 r hr)); rw [List.length_map] at hsort; refine hsort.mono ?_; clear hsort; rintro e wh ⟨rfl, ts', hperm, hpw, hS, hk, hb⟩; refine ⟨_, rfl, ?_⟩; have PH := Aside0.mk (And.intro hperm hpw); have SH := Aside0.mk hS; have LH := Aside0.mk (LG.out.trans hb); have BH5 := Aside0.mk (blk_kept BG5.out hk HOG.out); clear hperm hpw hS hk hb x5; have x5 := (blk_cell BH5.out 0).trans rfl))
  go_ret
  exact ⟨_, rfl, ⟨ts', PH.out.1, PH.out.2, Kd.S_mono SH.out (fun _ _ => trivial)⟩, LH.out⟩
def impl_tableaux.le (inner : List Int) (a b : List (List Int)) : Bool := decide (Go.Lib.compareBytes (Gr.txt inner a) (Gr.txt inner b) ≤ 0)
def impl_tableaux.all (outer inner ws : List Int) : List (List (List Int)) := Gr.growL outer inner ws (List.replicate outer.length []) 1
def impl_tableaux.sorted (outer inner ws : List Int) : List S79 := ((impl_tableaux.all outer inner ws).mergeSort (impl_tableaux.le inner)).map fun r => ⟨inner, r⟩
def impl_tableaux.fine (k : Nat) (outer inner ws : List Int) : Bool :=
  (outer.all (fun x => decide (0 ≤ x ∧ x ≤ 9)) && inner.all (fun x => decide (0 ≤ x ∧ x ≤ 9)) && decide (outer.length ≤ 1000) && decide (inner.length ≤ 1000) && ws.all (fun x => decide (0 ≤ x)) && decide (ws.length ≤ 900) && decide (impl_grow.total ws ≤ 1000) &&
    decide ((impl_tableaux.all outer inner ws).length < 2000000000)) && ((impl_TableauText.f k [] []).isSome && (impl_tableaux.all outer inner ws).all (fun r => decide ((impl_TableauText.f k inner r).map (fun t => t.data.toList) = some (Gr.txt inner r))) && decide (((impl_tableaux.all outer inner ws).map (Gr.txt inner)).Nodup))
def impl_tableaux.f (k : Nat) (l0_0 l0_1 l1 : List Int) : Option (List S79) :=
  (impl_sum.f k l1).bind fun s => (impl_CellCount.f k l0_0 l0_1).bind fun c => if s ≠ c then some [] else if impl_tableaux.fine k l0_0 l0_1 l1 = true then some (impl_tableaux.sorted l0_0 l0_1 l1) else none
theorem impl_tableaux.map_inj {α β : Type} (f : α → β) : ∀ l : List α, (l.map f).Nodup → ∀ a b, a ∈ l → b ∈ l → f a = f b → a = b
  | [], _, _, _, ha, _, _ => by cases ha
  | x :: l, h, a, b, ha, hb, e => by
    rw [List.map_cons, List.nodup_cons] at h
    rcases List.mem_cons.1 ha with ea | ha' <;> rcases List.mem_cons.1 hb with eb | hb'
    · rw [ea, eb]
    · exact absurd (show f x ∈ l.map f by rw [← ea, e]; exact List.mem_map_of_mem hb') h.1
    · exact absurd (show f x ∈ l.map f by rw [← eb, ← e]; exact List.mem_map_of_mem ha') h.1
    · exact impl_tableaux.map_inj f l h.2 a b ha' hb' e
theorem impl_tableaux.callsS (k : Nat) (A0_0 : Option Addr) (c0_0 : Nat) (l0_0 : List Int) (A0_1 : Option Addr) (c0_1 : Nat) (l0_1 : List Int) (A1 : Option Addr) (c1 : Nat) (l1 : List Int) (r : List S79) (w : World) (hr0_0 : Kd.C (Kd.int .i64) w A0_0 l0_0.length l0_0) (hc0_0 : l0_0.length ≤ c0_0) (hr0_1 : Kd.C (Kd.int .i64) w A0_1 l0_1.length l0_1) (hc0_1 : l0_1.length ≤ c0_1) (hr1 : Kd.C (Kd.int .i64) w A1 l1.length l1) (hc1 : l1.length ≤ c1) (h : impl_tableaux.f k l0_0 l0_1 l1 = some r) :
    Calls Tryz.prog 157 #[.agg #[.slice A0_0 l0_0.length c0_0, .slice A0_1 l0_1.length c0_1], .slice A1 l1.length c1] w fun e w' => ∃ v0_ : Value, e = .returned (v0_) ∧ Kd.S k79 79 w' w.heap.size (fun _ => True) v0_ r ∧ Below w.heap.size w w' := by
  unfold impl_tableaux.f at h
  obtain ⟨s, hs, h⟩ := Option.bind_eq_some_iff.1 h
  obtain ⟨c, hcc, h⟩ := Option.bind_eq_some_iff.1 h
  by_cases e : s ≠ c
  · rw [if_pos e] at h
    obtain rfl := Option.some.inj h
    exact impl_tableaux.none_calls k A0_0 c0_0 l0_0 A0_1 c0_1 l0_1 A1 c1 l1 s c w hr0_0 hc0_0 hr0_1 hc0_1 hr1 hc1 hs hcc e
  · rw [if_neg e] at h
    by_cases hf : impl_tableaux.fine k l0_0 l0_1 l1 = true
    · rw [if_pos hf] at h
      obtain rfl := Option.some.inj h
      unfold impl_tableaux.fine at hf
      simp only [Bool.and_eq_true, List.all_eq_true, decide_eq_true_eq] at hf
      obtain ⟨⟨⟨⟨⟨⟨⟨⟨f1, f2⟩, f3⟩, f4⟩, f5⟩, f6⟩, f7⟩, f8⟩, ⟨f9, f10⟩, f11⟩ := hf
      refine (impl_tableaux.some_calls k A0_0 c0_0 l0_0 A0_1 c0_1 l0_1 A1 c1 l1 s c w hr0_0 hc0_0 hr0_1 hc0_1 hr1 hc1 hs hcc (Decidable.not_not.1 e) f1 f2 f3 f4 f5 f6 f7 f8 (Option.isSome_iff_exists.1 f9) (fun r hr => by
        obtain ⟨t, ht, _⟩ := Option.map_eq_some_iff.1 (f10 r hr)
        exact ⟨t, ht⟩)).mono ?_
      rintro en w' ⟨v0, he, ⟨ts', hperm, hpw, hS⟩, hb⟩
      refine ⟨v0, he, ?_, hb⟩
      have hmem : ∀ x ∈ ts', ∃ r ∈ impl_tableaux.all l0_0 l0_1 l1, x = ⟨l0_1, r⟩ := fun x hx => by
        obtain ⟨r, hr, rfl⟩ := List.mem_map.1 (hperm.subset hx)
        exact ⟨r, hr, rfl⟩
      have hts : ts' = (ts'.map fun x => x.f1).map fun r => (⟨l0_1, r⟩ : S79) := by
        rw [List.map_map]
        conv => lhs; rw [← List.map_id ts']
        apply List.map_congr_left
        intro x hx
        obtain ⟨r, _, rfl⟩ := hmem x hx
        rfl
      have hp2 : (ts'.map fun x => x.f1).Perm (impl_tableaux.all l0_0 l0_1 l1) := by
        have := hperm.map (fun x => x.f1)
        rw [List.map_map] at this
        rw [show ((fun x : S79 => x.f1) ∘ fun r => (⟨l0_1, r⟩ : S79)) = id from rfl, List.map_id] at this
        exact this
      have hsrt : (ts'.map fun x => x.f1) = (impl_tableaux.all l0_0 l0_1 l1).mergeSort (impl_tableaux.le l0_1) := by
        refine Gr.sort_unique (impl_tableaux.le l0_1) (fun a b c h1 h2 => ?_) (fun a b => ?_) _ _ hp2 ?_ (fun a b ha hb h1 h2 => ?_)
        · exact decide_eq_true (strings_Compare.cb_trans _ _ _ (of_decide_eq_true h1) (of_decide_eq_true h2))
        · have h1 := strings_Compare.cb_swap (Gr.txt l0_1 a) (Gr.txt l0_1 b)
          unfold impl_tableaux.le
          by_cases h2 : Go.Lib.compareBytes (Gr.txt l0_1 a) (Gr.txt l0_1 b) ≤ 0
          · simp [h2]
          · have h3 : Go.Lib.compareBytes (Gr.txt l0_1 b) (Gr.txt l0_1 a) ≤ 0 := by omega
            simp [h3]
        · rw [List.pairwise_map]
          refine List.Pairwise.imp_of_mem ?_ hpw
          intro a b ha hb hab
          obtain ⟨ra, hra, rfl⟩ := hmem a ha
          obtain ⟨rb, hrb, rfl⟩ := hmem b hb
          obtain ⟨ta, hta, ea⟩ := Option.map_eq_some_iff.1 (f10 ra hra)
          obtain ⟨tb, htb, eb⟩ := Option.map_eq_some_iff.1 (f10 rb hrb)
          have := hab ta tb hta htb
          rw [ea, eb] at this
          exact decide_eq_true this
        · have h3 := of_decide_eq_true h1
          have h4 := of_decide_eq_true h2
          have h5 := strings_Compare.cb_swap (Gr.txt l0_1 a) (Gr.txt l0_1 b)
          exact impl_tableaux.map_inj (Gr.txt l0_1) _ f11 a b ha hb (strings_Compare.cb_eq _ _ (by omega))
      rw [hts, hsrt] at hS
      exact hS
    · rw [if_neg hf] at h
      cases h
theorem impl_tableaux.calls (k : Nat) (A0_0 : Option Addr) (c0_0 : Nat) (l0_0 : List Int) (A0_1 : Option Addr) (c0_1 : Nat) (l0_1 : List Int) (A1 : Option Addr) (c1 : Nat) (l1 : List Int) (r : List S79) (w : World) (hr0_0 : Kd.C (Kd.int .i64) w A0_0 l0_0.length l0_0) (hc0_0 : l0_0.length ≤ c0_0) (hr0_1 : Kd.C (Kd.int .i64) w A0_1 l0_1.length l0_1) (hc0_1 : l0_1.length ≤ c0_1) (hr1 : Kd.C (Kd.int .i64) w A1 l1.length l1) (hc1 : l1.length ≤ c1) (h : impl_tableaux.f k l0_0 l0_1 l1 = some r) :
    Calls Tryz.prog 157 #[.agg #[.slice A0_0 l0_0.length c0_0, .slice A0_1 l0_1.length c0_1], .slice A1 l1.length c1] w fun e w' => ∃ v0_ : Value, e = .returned (v0_) ∧ Kd.R k79 79 w' w.heap.size (fun _ => True) v0_ r ∧ Below w.heap.size w w' :=
  (impl_tableaux.callsS k A0_0 c0_0 l0_0 A0_1 c0_1 l0_1 A1 c1 l1 r w hr0_0 hc0_0 hr0_1 hc0_1 hr1 hc1 h).mono fun _ _ ⟨v, he, hS, hb⟩ => ⟨v, he, Kd.S_R hS, hb⟩
def impl_TableauxOfWeight.f (k : Nat) (l0_0 : List Int) (l0_1 : List Int) (l1 : List Int) : Option ((List (S79))) := (impl_IsShape.f k l0_0 l0_1).bind fun t192 => (if t192 = true then ((impl_isWeight.f l1).bind fun t193 => (if t193 = true then ((impl_tableaux.f k l0_0 l0_1 l1).bind fun t194 => (some t194)) else (some ([] : List (S79))))) else (some ([] : List (S79))))
set_option maxHeartbeats 8000000 in
set_option maxRecDepth 100000 in
theorem impl_TableauxOfWeight.calls (k : Nat) (A0_0 : Option Addr) (c0_0 : Nat) (l0_0 : List Int) (A0_1 : Option Addr) (c0_1 : Nat) (l0_1 : List Int) (A1 : Option Addr) (c1 : Nat) (l1 : List Int) (r : List (S79)) (w : World) (hr0_0 : Kd.C (Kd.int .i64) w A0_0 l0_0.length l0_0) (hc0_0 : l0_0.length ≤ c0_0) (hr0_1 : Kd.C (Kd.int .i64) w A0_1 l0_1.length l0_1) (hc0_1 : l0_1.length ≤ c0_1) (hr1 : Kd.C (Kd.int .i64) w A1 l1.length l1) (hc1 : l1.length ≤ c1) (h : impl_TableauxOfWeight.f k l0_0 l0_1 l1 = some r) :
  Calls Tryz.prog 123 #[.agg #[.slice A0_0 l0_0.length c0_0, .slice A0_1 l0_1.length c0_1], .slice A1 l1.length c1] w fun e w' => ∃ v0_ : Value, e = .returned (v0_) ∧ Kd.R k79 79 w' w.heap.size (fun _ => True) v0_ r ∧ Below w.heap.size w w' := by
 have hu74 := Tryz.underlying74
 have HR0_0 := Aside0.mk hr0_0
 have HC0_0 := Aside0.mk hc0_0
 clear hr0_0 hc0_0
 have HR0_1 := Aside0.mk hr0_1
 have HC0_1 := Aside0.mk hc0_1
 clear hr0_1 hc0_1
 have HR1 := Aside0.mk hr1
 have HC1 := Aside0.mk hc1
 clear hr1 hc1
 have HB := Aside0.mk (Below.refl w.heap.size w)
 have H : ((impl_IsShape.f k l0_0 l0_1).bind fun t192 => (if t192 = true then ((impl_isWeight.f l1).bind fun t193 => (if t193 = true then ((impl_tableaux.f k l0_0 l0_1 l1).bind fun t194 => (some t194)) else (some ([] : List (S79))))) else (some ([] : List (S79))))) = some r := h
 clear h
 replace H := Option.bind_eq_some_iff.mp H
 obtain ⟨t192, A30, H⟩ := H
 replace H : (if t192 = true then ((impl_isWeight.f l1).bind fun t193 => (if t193 = true then ((impl_tableaux.f k l0_0 l0_1 l1).bind fun t194 => (some t194)) else (some ([] : List (S79))))) else (some ([] : List (S79)))) = some r := H
 have A3 := Aside0.mk A30
 clear A30
 by_cases c4 : t192 = true
 ·
  subst c4
  have H1 : ((impl_isWeight.f l1).bind fun t193 => (if t193 = true then ((impl_tableaux.f k l0_0 l0_1 l1).bind fun t194 => (some t194)) else (some ([] : List (S79))))) = some r := by rw [if_pos rfl] at H; exact H
  clear H
  have H := H1
  clear H1
  replace H := Option.bind_eq_some_iff.mp H
  obtain ⟨t193, A50, H⟩ := H
  replace H : (if t193 = true then ((impl_tableaux.f k l0_0 l0_1 l1).bind fun t194 => (some t194)) else (some ([] : List (S79)))) = some r := H
  have A5 := Aside0.mk A50
  clear A50
  by_cases c6 : t193 = true
  ·
   subst c6
   have H1 : ((impl_tableaux.f k l0_0 l0_1 l1).bind fun t194 => (some t194)) = some r := by rw [if_pos rfl] at H; exact H
   clear H
   have H := H1
   clear H1
   replace H := Option.bind_eq_some_iff.mp H
   obtain ⟨t194, A70, H⟩ := H
   replace H : (some t194) = some r := H
   have A7 := Aside0.mk A70
   clear A70
   obtain rfl := Option.some.inj H
   go_enter Tryz.func123, Tryz.ntmps123
   go_wp2_with (first | ((with_reducible refine gate_dst (N := 2) rfl ?_); refine box_event ?hg (N := 2) ?hd (cs := #[.slice A0_0 l0_0.length c0_0, .slice A0_1 l0_1.length c0_1]) (t := 74) ?hr ?_; (case hd => rfl); (case hg => rfl); (case hr => first | (go_simp; done) | (go_simp; rfl)); intro gb191 hg w8 hbox hb; have n0_ := Aside0.mk (below_step (by repeat (first | (with_reducible first | exact HB.out | apply below_alloc | apply pw_below_drewN | apply below_drew1) | exact HB.out)) hb); have n1_ := Aside0.mk (hbox); have n2_ := Aside0.mk ((by rw [hg]; exact (below_size (by repeat (first | (with_reducible first | exact HB.out | apply below_alloc | apply pw_below_drewN | apply below_drew1) | exact HB.out))) : w.heap.size ≤ gb191)); have n3_ := Aside0.mk ((by rw [hg]; exact (below_size (by repeat (first | (with_reducible first | exact HB.out | apply below_alloc | apply pw_below_drewN | apply below_drew1) | exact HB.out))) : w.heap.size ≤ gb191)); clear HB; have HB := n0_; have BK191 := n1_; have GW191 := n2_; have GE191 := n3_; clear n0_ n1_ n2_ n3_; clear hb hbox hg; have hcz9_0 : w8.cell? ⟨gb191, 0, none⟩ = some (.slice A0_0 l0_0.length c0_0) := (blk_cell BK191.out 0).trans rfl; have hcz9_1 : w8.cell? ⟨gb191, 1, none⟩ = some (.slice A0_1 l0_1.length c0_1) := (blk_cell BK191.out 1).trans rfl; have hfz9_0 := blk_frozen BK191.out 0; have hfz9_1 := blk_frozen BK191.out 1) | ((with_reducible refine gate_callee (f := 155) rfl ?_); refine goesL_ (some 6) rfl rfl Tryz.func155 (by kernel_rfl) rfl #[.agg #[.slice A0_0 l0_0.length c0_0, .slice A0_1 l0_1.length c0_1]] rfl (by (try simp only [List.map_toArray, List.map_cons, List.map_nil]); first | done | rfl | (simp only [List.length_drop, List.length_take]; rfl)) ?_; (with_reducible refine (impl_IsShape.calls k _ _ l0_0 _ _ l0_1 true _ ?side1 ?side2 ?side3 ?side4 A3.out).mono ?_); (case side1 => repeat (first | exact (Kd.C_below HR0_0.out HB.out) | (with_reducible refine Kd.C_alloc ?_ _) | (with_reducible refine Kd.C_drewN ?_ _) | (with_reducible refine Kd.C_drew ?_))); (case side2 => exact HC0_0.out); (case side3 => repeat (first | exact (Kd.C_below HR0_1.out HB.out) | (with_reducible refine Kd.C_alloc ?_ _) | (with_reducible refine Kd.C_drewN ?_ _) | (with_reducible refine Kd.C_drew ?_))); (case side4 => exact HC0_1.out); rintro e w10 ⟨rfl, hb⟩; refine ⟨_, rfl, ?_⟩; have n0_ := Aside0.mk (blk_below (g := gb191) (o := .cells #[.slice A0_0 l0_0.length c0_0, .slice A0_1 l0_1.length c0_1] 74 (0, 0)) (by (with_reducible repeat (first | refine blk_drewN ?_ _ | refine blk_drew ?_ | refine blk_alloc ?_ _)); exact BK191.out) hb); have n1_ := Aside0.mk (below_step (by repeat (first | (with_reducible first | exact HB.out | apply below_alloc | apply pw_below_drewN | apply below_drew1 | refine below_set ?_ GE191.out) | exact HB.out)) hb); clear BK191; clear HB; have BK191 := n0_; have HB := n1_; clear n0_ n1_; (try clear hb); (try clear hb2); (try clear hk); (try clear hi)) | (go_at_call 156; (with_reducible refine (impl_isWeight.calls _ _ l1 true _ ?side1 ?side2 A5.out).mono ?_); (case side1 => repeat (first | exact (Kd.C_below HR1.out HB.out) | (with_reducible refine Kd.C_alloc ?_ _) | (with_reducible refine Kd.C_drewN ?_ _) | (with_reducible refine Kd.C_drew ?_))); (case side2 => exact HC1.out); rintro e w' ⟨rfl, ⟨nd, rfl⟩⟩; have hcz11_0 : w10.cell? ⟨gb191, 0, none⟩ = some (.slice A0_0 l0_0.length c0_0) := (blk_cell BK191.out 0).trans rfl; have hcz11_1 : w10.cell? ⟨gb191, 1, none⟩ = some (.slice A0_1 l0_1.length c0_1) := (blk_cell BK191.out 1).trans rfl; have hfz11_0 := blk_frozen BK191.out 0; have hfz11_1 := blk_frozen BK191.out 1) | ((with_reducible refine gate_callee (f := 157) rfl ?_); refine goesL_ (some 15) rfl rfl Tryz.func157 (by kernel_rfl) rfl #[.agg #[.slice A0_0 l0_0.length c0_0, .slice A0_1 l0_1.length c0_1], .slice A1 l1.length c1] rfl (by (try simp only [List.map_toArray, List.map_cons, List.map_nil]); first | done | rfl | (simp only [List.length_drop, List.length_take]; rfl)) ?_; (with_reducible refine (impl_tableaux.calls k _ _ l0_0 _ _ l0_1 _ _ l1 t194 _ ?side1 ?side2 ?side3 ?side4 ?side5 ?side6 A7.out).mono ?_); (case side1 => repeat (first | exact (Kd.C_below HR0_0.out (by repeat (first | (with_reducible first | exact HB.out | apply below_alloc | apply pw_below_drewN | apply below_drew1 | refine below_set ?_ GE191.out) | exact HB.out))) | (with_reducible refine Kd.C_alloc ?_ _) | (with_reducible refine Kd.C_drewN ?_ _) | (with_reducible refine Kd.C_drew ?_))); (case side2 => exact HC0_0.out); (case side3 => repeat (first | exact (Kd.C_below HR0_1.out (by repeat (first | (with_reducible first | exact HB.out | apply below_alloc | apply pw_below_drewN | apply below_drew1 | refine below_set ?_ GE191.out) | exact HB.out))) | (with_reducible refine Kd.C_alloc ?_ _) | (with_reducible refine Kd.C_drewN ?_ _) | (with_reducible refine Kd.C_drew ?_))); (case side4 => exact HC0_1.out); (case side5 => repeat (first | exact (Kd.C_below HR1.out (by repeat (first | (with_reducible first | exact HB.out | apply below_alloc | apply pw_below_drewN | apply below_drew1 | refine below_set ?_ GE191.out) | exact HB.out))) | (with_reducible refine Kd.C_alloc ?_ _) | (with_reducible refine Kd.C_drewN ?_ _) | (with_reducible refine Kd.C_drew ?_))); (case side6 => exact HC1.out); rintro e w12 ⟨v195, rfl, ho0, hb⟩; refine ⟨_, rfl, ?_⟩; have n0_ := Aside0.mk (Kd.R_lower ho0 (below_size (by repeat (first | (with_reducible first | exact HB.out | apply below_alloc | apply pw_below_drewN | apply below_drew1 | refine below_set ?_ GE191.out) | exact HB.out)))); have n1_ := Aside0.mk (blk_below (g := gb191) (o := .cells #[.slice A0_0 l0_0.length c0_0, .slice A0_1 l0_1.length c0_1] 74 (0, 0)) (by (with_reducible repeat (first | refine blk_drewN ?_ _ | refine blk_drew ?_ | refine blk_alloc ?_ _)); exact BK191.out) hb); have n2_ := Aside0.mk (below_step (by repeat (first | (with_reducible first | exact HB.out | apply below_alloc | apply pw_below_drewN | apply below_drew1 | refine below_set ?_ GE191.out) | exact HB.out)) hb); clear BK191; clear HB; have HO196 := n0_; have BK191 := n1_; have HB := n2_; clear n0_ n1_ n2_; (try clear hb); (try clear hb2); (try clear hk); (try clear hi); (try clear ho0)))
   go_ret
   exact ⟨_, by first | rfl | (simp [errW_none, errW_some] <;> rfl) | (simp [*, errW_none, errW_some] <;> rfl), by (with_reducible repeat (first | apply Kd.R_alloc | apply Kd.R_drewN | apply Kd.R_drew)); exact HO196.out, by repeat (first | (with_reducible first | exact HB.out | apply below_alloc | apply pw_below_drewN | apply below_drew1 | refine below_set ?_ GE191.out) | exact HB.out)⟩
  ·
   replace c6 := Bool.eq_false_iff.mpr c6
   subst c6
   have H1 : (some ([] : List (S79))) = some r := by rw [if_neg (show ¬ (false = true) by decide)] at H; exact H
   clear H
   have H := H1
   clear H1
   obtain rfl := Option.some.inj H
   go_enter Tryz.func123, Tryz.ntmps123
   go_wp2_with (first | ((with_reducible refine gate_dst (N := 2) rfl ?_); refine box_event ?hg (N := 2) ?hd (cs := #[.slice A0_0 l0_0.length c0_0, .slice A0_1 l0_1.length c0_1]) (t := 74) ?hr ?_; (case hd => rfl); (case hg => rfl); (case hr => first | (go_simp; done) | (go_simp; rfl)); intro gb191 hg w13 hbox hb; have n0_ := Aside0.mk (below_step (by repeat (first | (with_reducible first | exact HB.out | apply below_alloc | apply pw_below_drewN | apply below_drew1) | exact HB.out)) hb); have n1_ := Aside0.mk (hbox); have n2_ := Aside0.mk ((by rw [hg]; exact (below_size (by repeat (first | (with_reducible first | exact HB.out | apply below_alloc | apply pw_below_drewN | apply below_drew1) | exact HB.out))) : w.heap.size ≤ gb191)); have n3_ := Aside0.mk ((by rw [hg]; exact (below_size (by repeat (first | (with_reducible first | exact HB.out | apply below_alloc | apply pw_below_drewN | apply below_drew1) | exact HB.out))) : w.heap.size ≤ gb191)); clear HB; have HB := n0_; have BK191 := n1_; have GW191 := n2_; have GE191 := n3_; clear n0_ n1_ n2_ n3_; clear hb hbox hg; have hcz14_0 : w13.cell? ⟨gb191, 0, none⟩ = some (.slice A0_0 l0_0.length c0_0) := (blk_cell BK191.out 0).trans rfl; have hcz14_1 : w13.cell? ⟨gb191, 1, none⟩ = some (.slice A0_1 l0_1.length c0_1) := (blk_cell BK191.out 1).trans rfl; have hfz14_0 := blk_frozen BK191.out 0; have hfz14_1 := blk_frozen BK191.out 1) | ((with_reducible refine gate_callee (f := 155) rfl ?_); refine goesL_ (some 6) rfl rfl Tryz.func155 (by kernel_rfl) rfl #[.agg #[.slice A0_0 l0_0.length c0_0, .slice A0_1 l0_1.length c0_1]] rfl (by (try simp only [List.map_toArray, List.map_cons, List.map_nil]); first | done | rfl | (simp only [List.length_drop, List.length_take]; rfl)) ?_; (with_reducible refine (impl_IsShape.calls k _ _ l0_0 _ _ l0_1 true _ ?side1 ?side2 ?side3 ?side4 A3.out).mono ?_); (case side1 => repeat (first | exact (Kd.C_below HR0_0.out HB.out) | (with_reducible refine Kd.C_alloc ?_ _) | (with_reducible refine Kd.C_drewN ?_ _) | (with_reducible refine Kd.C_drew ?_))); (case side2 => exact HC0_0.out); (case side3 => repeat (first | exact (Kd.C_below HR0_1.out HB.out) | (with_reducible refine Kd.C_alloc ?_ _) | (with_reducible refine Kd.C_drewN ?_ _) | (with_reducible refine Kd.C_drew ?_))); (case side4 => exact HC0_1.out); rintro e w15 ⟨rfl, hb⟩; refine ⟨_, rfl, ?_⟩; have n0_ := Aside0.mk (blk_below (g := gb191) (o := .cells #[.slice A0_0 l0_0.length c0_0, .slice A0_1 l0_1.length c0_1] 74 (0, 0)) (by (with_reducible repeat (first | refine blk_drewN ?_ _ | refine blk_drew ?_ | refine blk_alloc ?_ _)); exact BK191.out) hb); have n1_ := Aside0.mk (below_step (by repeat (first | (with_reducible first | exact HB.out | apply below_alloc | apply pw_below_drewN | apply below_drew1 | refine below_set ?_ GE191.out) | exact HB.out)) hb); clear BK191; clear HB; have BK191 := n0_; have HB := n1_; clear n0_ n1_; (try clear hb); (try clear hb2); (try clear hk); (try clear hi)) | (go_at_call 156; (with_reducible refine (impl_isWeight.calls _ _ l1 false _ ?side1 ?side2 A5.out).mono ?_); (case side1 => repeat (first | exact (Kd.C_below HR1.out HB.out) | (with_reducible refine Kd.C_alloc ?_ _) | (with_reducible refine Kd.C_drewN ?_ _) | (with_reducible refine Kd.C_drew ?_))); (case side2 => exact HC1.out); rintro e w' ⟨rfl, ⟨nd, rfl⟩⟩))
   go_ret
   exact ⟨_, by first | rfl | (simp [errW_none, errW_some] <;> rfl) | (simp [*, errW_none, errW_some] <;> rfl), by first | exact Kd.R_nil _ _ _ _ _ | exact Kd.N_nil _ _ _ _ _ | exact Kd.V_nil _ _ _ _ _ | exact Kd.Q_nil _ _ _ _ _ | exact Kd.S_nil _ _ _ _ _, by repeat (first | (with_reducible first | exact HB.out | apply below_alloc | apply pw_below_drewN | apply below_drew1 | refine below_set ?_ GE191.out) | exact HB.out)⟩
 ·
  replace c4 := Bool.eq_false_iff.mpr c4
  subst c4
  have H1 : (some ([] : List (S79))) = some r := by rw [if_neg (show ¬ (false = true) by decide)] at H; exact H
  clear H
  have H := H1
  clear H1
  obtain rfl := Option.some.inj H
  go_enter Tryz.func123, Tryz.ntmps123
  go_wp2_with (first | ((with_reducible refine gate_dst (N := 2) rfl ?_); refine box_event ?hg (N := 2) ?hd (cs := #[.slice A0_0 l0_0.length c0_0, .slice A0_1 l0_1.length c0_1]) (t := 74) ?hr ?_; (case hd => rfl); (case hg => rfl); (case hr => first | (go_simp; done) | (go_simp; rfl)); intro gb191 hg w16 hbox hb; have n0_ := Aside0.mk (below_step (by repeat (first | (with_reducible first | exact HB.out | apply below_alloc | apply pw_below_drewN | apply below_drew1) | exact HB.out)) hb); have n1_ := Aside0.mk (hbox); have n2_ := Aside0.mk ((by rw [hg]; exact (below_size (by repeat (first | (with_reducible first | exact HB.out | apply below_alloc | apply pw_below_drewN | apply below_drew1) | exact HB.out))) : w.heap.size ≤ gb191)); have n3_ := Aside0.mk ((by rw [hg]; exact (below_size (by repeat (first | (with_reducible first | exact HB.out | apply below_alloc | apply pw_below_drewN | apply below_drew1) | exact HB.out))) : w.heap.size ≤ gb191)); clear HB; have HB := n0_; have BK191 := n1_; have GW191 := n2_; have GE191 := n3_; clear n0_ n1_ n2_ n3_; clear hb hbox hg; have hcz17_0 : w16.cell? ⟨gb191, 0, none⟩ = some (.slice A0_0 l0_0.length c0_0) := (blk_cell BK191.out 0).trans rfl; have hcz17_1 : w16.cell? ⟨gb191, 1, none⟩ = some (.slice A0_1 l0_1.length c0_1) := (blk_cell BK191.out 1).trans rfl; have hfz17_0 := blk_frozen BK191.out 0; have hfz17_1 := blk_frozen BK191.out 1) | ((with_reducible refine gate_callee (f := 155) rfl ?_); refine goesL_ (some 6) rfl rfl Tryz.func155 (by kernel_rfl) rfl #[.agg #[.slice A0_0 l0_0.length c0_0, .slice A0_1 l0_1.length c0_1]] rfl (by (try simp only [List.map_toArray, List.map_cons, List.map_nil]); first | done | rfl | (simp only [List.length_drop, List.length_take]; rfl)) ?_; (with_reducible refine (impl_IsShape.calls k _ _ l0_0 _ _ l0_1 false _ ?side1 ?side2 ?side3 ?side4 A3.out).mono ?_); (case side1 => repeat (first | exact (Kd.C_below HR0_0.out HB.out) | (with_reducible refine Kd.C_alloc ?_ _) | (with_reducible refine Kd.C_drewN ?_ _) | (with_reducible refine Kd.C_drew ?_))); (case side2 => exact HC0_0.out); (case side3 => repeat (first | exact (Kd.C_below HR0_1.out HB.out) | (with_reducible refine Kd.C_alloc ?_ _) | (with_reducible refine Kd.C_drewN ?_ _) | (with_reducible refine Kd.C_drew ?_))); (case side4 => exact HC0_1.out); rintro e w18 ⟨rfl, hb⟩; refine ⟨_, rfl, ?_⟩; have n0_ := Aside0.mk (blk_below (g := gb191) (o := .cells #[.slice A0_0 l0_0.length c0_0, .slice A0_1 l0_1.length c0_1] 74 (0, 0)) (by (with_reducible repeat (first | refine blk_drewN ?_ _ | refine blk_drew ?_ | refine blk_alloc ?_ _)); exact BK191.out) hb); have n1_ := Aside0.mk (below_step (by repeat (first | (with_reducible first | exact HB.out | apply below_alloc | apply pw_below_drewN | apply below_drew1 | refine below_set ?_ GE191.out) | exact HB.out)) hb); clear BK191; clear HB; have BK191 := n0_; have HB := n1_; clear n0_ n1_; (try clear hb); (try clear hb2); (try clear hk); (try clear hi)))
  go_ret
  exact ⟨_, by first | rfl | (simp [errW_none, errW_some] <;> rfl) | (simp [*, errW_none, errW_some] <;> rfl), by first | exact Kd.R_nil _ _ _ _ _ | exact Kd.N_nil _ _ _ _ _ | exact Kd.V_nil _ _ _ _ _ | exact Kd.Q_nil _ _ _ _ _ | exact Kd.S_nil _ _ _ _ _, by repeat (first | (with_reducible first | exact HB.out | apply below_alloc | apply pw_below_drewN | apply below_drew1 | refine below_set ?_ GE191.out) | exact HB.out)⟩
def impl_KostkaNumber.f (k : Nat) (l0_0 : List Int) (l0_1 : List Int) (l1 : List Int) : Option (Int) := (impl_TableauxOfWeight.f k l0_0 l0_1 l1).bind fun t198 => (some (t198.length : Int))
set_option maxHeartbeats 8000000 in
set_option maxRecDepth 100000 in
theorem impl_KostkaNumber.calls (k : Nat) (A0_0 : Option Addr) (c0_0 : Nat) (l0_0 : List Int) (A0_1 : Option Addr) (c0_1 : Nat) (l0_1 : List Int) (A1 : Option Addr) (c1 : Nat) (l1 : List Int) (r : Int) (w : World) (hr0_0 : Kd.C (Kd.int .i64) w A0_0 l0_0.length l0_0) (hc0_0 : l0_0.length ≤ c0_0) (hr0_1 : Kd.C (Kd.int .i64) w A0_1 l0_1.length l0_1) (hc0_1 : l0_1.length ≤ c0_1) (hr1 : Kd.C (Kd.int .i64) w A1 l1.length l1) (hc1 : l1.length ≤ c1) (h : impl_KostkaNumber.f k l0_0 l0_1 l1 = some r) :
  Calls Tryz.prog 74 #[.agg #[.slice A0_0 l0_0.length c0_0, .slice A0_1 l0_1.length c0_1], .slice A1 l1.length c1] w fun e w' => e = .returned (.int .i64 r) ∧ Below w.heap.size w w' := by
 have hu74 := Tryz.underlying74
 have HR0_0 := Aside0.mk hr0_0
 have HC0_0 := Aside0.mk hc0_0
 clear hr0_0 hc0_0
 have HR0_1 := Aside0.mk hr0_1
 have HC0_1 := Aside0.mk hc0_1
 clear hr0_1 hc0_1
 have HR1 := Aside0.mk hr1
 have HC1 := Aside0.mk hc1
 clear hr1 hc1
 have HB := Aside0.mk (Below.refl w.heap.size w)
 have H : ((impl_TableauxOfWeight.f k l0_0 l0_1 l1).bind fun t198 => (some (t198.length : Int))) = some r := h
 clear h
 replace H := Option.bind_eq_some_iff.mp H
 obtain ⟨t198, A30, H⟩ := H
 replace H : (some (t198.length : Int)) = some r := H
 have A3 := Aside0.mk A30
 clear A30
 obtain rfl := Option.some.inj H
 go_enter Tryz.func74, Tryz.ntmps74
 go_wp2_with (first | ((with_reducible refine gate_dst (N := 2) rfl ?_); refine box_event ?hg (N := 2) ?hd (cs := #[.slice A0_0 l0_0.length c0_0, .slice A0_1 l0_1.length c0_1]) (t := 74) ?hr ?_; (case hd => rfl); (case hg => rfl); (case hr => first | (go_simp; done) | (go_simp; rfl)); intro gb197 hg w4 hbox hb; have n0_ := Aside0.mk (below_step (by repeat (first | (with_reducible first | exact HB.out | apply below_alloc | apply pw_below_drewN | apply below_drew1) | exact HB.out)) hb); have n1_ := Aside0.mk (hbox); have n2_ := Aside0.mk ((by rw [hg]; exact (below_size (by repeat (first | (with_reducible first | exact HB.out | apply below_alloc | apply pw_below_drewN | apply below_drew1) | exact HB.out))) : w.heap.size ≤ gb197)); have n3_ := Aside0.mk ((by rw [hg]; exact (below_size (by repeat (first | (with_reducible first | exact HB.out | apply below_alloc | apply pw_below_drewN | apply below_drew1) | exact HB.out))) : w.heap.size ≤ gb197)); clear HB; have HB := n0_; have BK197 := n1_; have GW197 := n2_; have GE197 := n3_; clear n0_ n1_ n2_ n3_; clear hb hbox hg; have hcz5_0 : w4.cell? ⟨gb197, 0, none⟩ = some (.slice A0_0 l0_0.length c0_0) := (blk_cell BK197.out 0).trans rfl; have hcz5_1 : w4.cell? ⟨gb197, 1, none⟩ = some (.slice A0_1 l0_1.length c0_1) := (blk_cell BK197.out 1).trans rfl; have hfz5_0 := blk_frozen BK197.out 0; have hfz5_1 := blk_frozen BK197.out 1) | ((with_reducible refine gate_callee (f := 123) rfl ?_); refine goesL_ (some 7) rfl rfl Tryz.func123 (by kernel_rfl) rfl #[.agg #[.slice A0_0 l0_0.length c0_0, .slice A0_1 l0_1.length c0_1], .slice A1 l1.length c1] rfl (by (try simp only [List.map_toArray, List.map_cons, List.map_nil]); first | done | rfl | (simp only [List.length_drop, List.length_take]; rfl)) ?_; (with_reducible refine (impl_TableauxOfWeight.calls k _ _ l0_0 _ _ l0_1 _ _ l1 t198 _ ?side1 ?side2 ?side3 ?side4 ?side5 ?side6 A3.out).mono ?_); (case side1 => repeat (first | exact (Kd.C_below HR0_0.out HB.out) | (with_reducible refine Kd.C_alloc ?_ _) | (with_reducible refine Kd.C_drewN ?_ _) | (with_reducible refine Kd.C_drew ?_))); (case side2 => exact HC0_0.out); (case side3 => repeat (first | exact (Kd.C_below HR0_1.out HB.out) | (with_reducible refine Kd.C_alloc ?_ _) | (with_reducible refine Kd.C_drewN ?_ _) | (with_reducible refine Kd.C_drew ?_))); (case side4 => exact HC0_1.out); (case side5 => repeat (first | exact (Kd.C_below HR1.out HB.out) | (with_reducible refine Kd.C_alloc ?_ _) | (with_reducible refine Kd.C_drewN ?_ _) | (with_reducible refine Kd.C_drew ?_))); (case side6 => exact HC1.out); rintro e w6 ⟨v199, rfl, ho0, hb⟩; refine ⟨_, rfl, ?_⟩; have n0_ := Aside0.mk (Kd.R_lower ho0 (below_size (by repeat (first | (with_reducible first | exact HB.out | apply below_alloc | apply pw_below_drewN | apply below_drew1 | refine below_set ?_ GE197.out) | exact HB.out)))); have n1_ := Aside0.mk (blk_below (g := gb197) (o := .cells #[.slice A0_0 l0_0.length c0_0, .slice A0_1 l0_1.length c0_1] 74 (0, 0)) (by (with_reducible repeat (first | refine blk_drewN ?_ _ | refine blk_drew ?_ | refine blk_alloc ?_ _)); exact BK197.out) hb); have n2_ := Aside0.mk (below_step (by repeat (first | (with_reducible first | exact HB.out | apply below_alloc | apply pw_below_drewN | apply below_drew1 | refine below_set ?_ GE197.out) | exact HB.out)) hb); clear BK197; clear HB; have HO200 := n0_; have BK197 := n1_; have HB := n2_; clear n0_ n1_ n2_; (try clear hb); (try clear hb2); (try clear hk); (try clear hi); (try clear ho0); obtain ⟨Ao7, co7, eo7⟩ := Kd.R_slice HO200.out; subst eo7))
 go_ret
 exact ⟨by first | rfl | (simp [errW_none, errW_some] <;> rfl) | (simp [*, errW_none, errW_some] <;> rfl), by repeat (first | (with_reducible first | exact HB.out | apply below_alloc | apply pw_below_drewN | apply below_drew1 | refine below_set ?_ GE197.out) | exact HB.out)⟩
mutual
def impl_partitions.l0 : Nat → Int → List (List Int) → Int → Option ((List (List Int)))
  | 0, _, _, _ => none
  | k + 1, x0, x5, x6 => if x6 > 0 then ((impl_partitions.f k (wrap64 (x0 - x6)) x6).bind fun t210 => (impl_partitions.l1 k x0 x5 x6 t210 (t210.length : Int) 0)) else (some x5)
def impl_partitions.l1 : Nat → Int → List (List Int) → Int → List (List Int) → Int → Int → Option ((List (List Int)))
  | 0, _, _, _, _, _, _ => none
  | k + 1, x0, x5, x6, x25, x26, x27 => if x27 < x26 then (if 0 ≤ x27 then (if x27 < (x25.length : Int) then ((some (([x6] : List Int) : List Int)).bind fun y214 => (if y214.length + (rd_L3 x25 x27).length < 17592186044416 then (if x5.length < 5864062014805 then (impl_partitions.l1 k x0 (x5 ++ [(y214 ++ (rd_L3 x25 x27))]) x6 x25 x26 (wrap64 (x27 + 1))) else (none)) else (none))) else (none)) else (none)) else (impl_partitions.l0 k x0 x5 (wrap64 (x6 - 1)))
def impl_partitions.f : Nat → Int → Int → Option ((List (List Int)))
  | 0, _, _ => none
  | k + 1, a0, a1 => if a0 = 0 then (some (([(([] : List Int))] : List (List Int)))) else (impl_partitions.l0 k a0 (([] : List (List Int))) (mn a0 a1))
end
set_option maxHeartbeats 8000000 in
set_option maxRecDepth 100000 in
theorem impl_partitions.calls (k : Nat) : ∀ (a0 : Int) (a1 : Int) (r : List (List Int)) (w : World) (h : impl_partitions.f k a0 a1 = some r),
  Calls Tryz.prog 149 #[.int .i64 a0, .int .i64 a1] w fun e w' => ∃ v0_ : Value, e = .returned (v0_) ∧ Kd.N (Kd.slice 3 (Kd.int .i64)) 24 w' w.heap.size (fun k_ => (w.heap.size ≤ k_)) v0_ r ∧ Below w.heap.size w w' := by
 induction k using Nat.strongRecOn with
 | _ k ih =>
 intro a0 a1 r w h
 cases k with
 | zero => exact absurd h (by simp [impl_partitions.f])
 | succ k =>
 simp only [impl_partitions.f] at h
 have HB := Aside0.mk (Below.refl w.heap.size w)
 have H : (if a0 = 0 then (some (([(([] : List Int))] : List (List Int)))) else (impl_partitions.l0 k a0 (([] : List (List Int))) (mn a0 a1))) = some r := h
 clear h
 by_cases c3 : a0 = 0
 ·
  rw [if_pos c3] at H
  have c3b0 : (a0 == 0) = true := beq_iff_eq.mpr c3
  have c3b1 : (a0 != 0) = false := bne_eq_false_iff_eq.mpr c3
  clear c3
  obtain ⟨y201, hy201⟩ : ∃ y_ : List Int, y_ = (([] : List Int)) := ⟨_, rfl⟩
  replace H : (some (([y201] : List (List Int)))) = some r := by first | (rw [hy201]; with_reducible exact H) | (have H2_ := (Option.bind_some _ _).symm.trans H; rw [hy201]; with_reducible exact H2_) | (have H2_ := (Option.bind_some _ _).symm.trans H; with_reducible exact H2_) | with_reducible exact H | (rw [hy201]; exact H) | exact H
  have Ny201 := Aside0.mk hy201
  clear hy201
  obtain ⟨y204, hy204⟩ : ∃ y_ : List (List Int), y_ = (([y201] : List (List Int))) := ⟨_, rfl⟩
  replace H : (some y204) = some r := by first | (rw [hy204]; with_reducible exact H) | (have H2_ := (Option.bind_some _ _).symm.trans H; rw [hy204]; with_reducible exact H2_) | (have H2_ := (Option.bind_some _ _).symm.trans H; with_reducible exact H2_) | with_reducible exact H | (rw [hy204]; exact H) | exact H
  have Ny204 := Aside0.mk hy204
  clear hy204
  obtain rfl := Option.some.inj H
  go_enter Tryz.func149, Tryz.ntmps149
  go_wp2_with (first | ((with_reducible refine gate_dst (N := 11) rfl ?_); refine Kd.R_lit (Kd.int .i64) _ 3 ?hg (N := 11) ?hd (xs := ([] : List Int)) (inner := []) (ok := fun _ => True) (okp := fun _ => True) ?hr ?hp (fun _ hk => hk) trivial (Below.refl _ _) (Nat.le_refl _) (by simp) ?_; (case hd => rfl); (case hg => rfl); (case hr => first | (go_simp; done) | (go_simp; rfl)); (case hp => exact (Reps.none _ _)); intro v202 w4 ho5 hb hg_ hnew_; clear hg_ hnew_; (first | rw [← Ny201.out] at ho5 | (simp only [Int.reduceToNat] at ho5; rw [← Ny201.out] at ho5)); have n0_ := Aside0.mk (Kd.R_lower (Kd.R_newM (M := fun k_ => (w.heap.size ≤ k_)) ho5 (below_size (by repeat (first | (with_reducible first | exact HB.out | apply below_alloc | apply pw_below_drewN | apply below_drew1) | exact HB.out))) (fun k_ h_ => h_)) (below_size (by repeat (first | (with_reducible first | exact HB.out | apply below_alloc | apply pw_below_drewN | apply below_drew1) | exact HB.out)))); have n1_ := Aside0.mk (below_step (by repeat (first | (with_reducible first | exact HB.out | apply below_alloc | apply pw_below_drewN | apply below_drew1) | exact HB.out)) hb); clear HB; have HO203 := n0_; have HB := n1_; clear n0_ n1_; clear hb ho5; obtain ⟨Ao6, co6, eo6⟩ := Kd.R_slice HO203.out; subst eo6) | ((with_reducible refine gate_dst (N := 12) rfl ?_); refine Kd.N_lit (Kd.slice 3 (Kd.int .i64)) _ 24 ?hg (N' := 12) ?hd (xs := ([y201] : List (List Int))) (inner := [.slice Ao6 y201.length co6]) (ok := (fun k_ => (w.heap.size ≤ k_))) (okp := (fun k_ => (w.heap.size ≤ k_))) ?hr ?hp (fun _ hk => hk) ((show ∀ k_, w4.heap.size ≤ k_ → (fun k_ => (w.heap.size ≤ k_)) k_ from fun k_ hk => (Nat.le_trans (below_size (by repeat (first | (with_reducible first | exact HB.out | apply below_alloc | apply pw_below_drewN | apply below_drew1) | exact HB.out))) hk)) _ (Nat.le_refl _)) (Below.refl _ _) (Nat.le_refl _) (by simp) ?_; (case hd => rfl); (case hg => rfl); (case hr => first | (go_simp; done) | (go_simp; rfl)); (case hp => exact (Reps.one (show Kd.FK (Kd.slice 3 (Kd.int .i64)) _ _ y201 [.slice Ao6 y201.length co6] from (Kd.FK_slice_mk (Kd.R_reads' (Kd.R_mono (ok' := (fun k_ => (w.heap.size ≤ k_))) (HO203.out) (fun k_ hk => hk.1))).2.1 (Kd.R_F (Kd.R_mono (ok' := (fun k_ => (w.heap.size ≤ k_))) (HO203.out) (fun k_ hk => hk.1))))) (Reps.none _ _))); intro v205 w7 ho8 hb hg_ hnew_; clear hg_ hnew_; (first | rw [← Ny204.out] at ho8 | (simp only [Int.reduceToNat] at ho8; rw [← Ny204.out] at ho8)); have n0_ := Aside0.mk (Kd.N_lower ho8 (below_size (by repeat (first | (with_reducible first | exact HB.out | apply below_alloc | apply pw_below_drewN | apply below_drew1) | exact HB.out)))); have n1_ := Aside0.mk (below_step (by repeat (first | (with_reducible first | exact HB.out | apply below_alloc | apply pw_below_drewN | apply below_drew1) | exact HB.out)) hb); clear HB; clear HO203; have HO206 := n0_; have HB := n1_; clear n0_ n1_; clear hb ho8))
  go_ret
  exact ⟨_, by first | rfl | (simp [errW_none, errW_some] <;> rfl) | (simp [*, errW_none, errW_some] <;> rfl), by (with_reducible repeat (first | apply Kd.N_alloc | apply Kd.N_drewN | apply Kd.N_drew)); exact HO206.out, by repeat (first | (with_reducible first | exact HB.out | apply below_alloc | apply pw_below_drewN | apply below_drew1) | exact HB.out)⟩
 ·
  rw [if_neg c3] at H
  have c3b0 : (a0 == 0) = false := beq_eq_false_iff_ne.mpr c3
  have c3b1 : (a0 != 0) = true := bne_iff_ne.mpr c3
  obtain ⟨y207, hy207⟩ : ∃ y_ : List (List Int), y_ = (([] : List (List Int))) := ⟨_, rfl⟩
  replace H : (impl_partitions.l0 k a0 y207 (mn a0 a1)) = some r := by first | (rw [hy207]; with_reducible exact H) | (have H2_ := (Option.bind_some _ _).symm.trans H; rw [hy207]; with_reducible exact H2_) | (have H2_ := (Option.bind_some _ _).symm.trans H; with_reducible exact H2_) | with_reducible exact H | (rw [hy207]; exact H) | exact H
  have Ny207 := Aside0.mk hy207
  clear hy207
  obtain ⟨ji9, hji9⟩ : ∃ j_ : Int, (mn a0 a1) = j_ := ⟨_, rfl⟩
  replace H : (impl_partitions.l0 k a0 y207 ji9) = some r := by first | (rw [hji9] at H; exact H) | (simp only [hji9] at H ⊢; exact H)
  have hji9_ : (if a1 < a0 then a1 else a0) = ji9 := hji9
  have H' := Aside0.mk H
  clear H
  go_enter Tryz.func149, Tryz.ntmps149
  go_wp2_with (first | ((with_reducible refine gate_dst (N := 13) rfl ?_); refine Kd.N_lit (Kd.slice 3 (Kd.int .i64)) _ 24 ?hg (N' := 13) ?hd (xs := ([] : List (List Int))) (inner := []) (ok := (fun k_ => (w.heap.size ≤ k_))) (okp := (fun k_ => (w.heap.size ≤ k_))) ?hr ?hp (fun _ hk => hk) ((show ∀ k_, w.heap.size ≤ k_ → (fun k_ => (w.heap.size ≤ k_)) k_ from fun k_ hk => (Nat.le_trans (below_size (by repeat (first | (with_reducible first | exact HB.out | apply below_alloc | apply pw_below_drewN | apply below_drew1) | exact HB.out))) hk)) _ (Nat.le_refl _)) (Below.refl _ _) (Nat.le_refl _) (by simp) ?_; (case hd => rfl); (case hg => rfl); (case hr => first | (go_simp; done) | (go_simp; rfl)); (case hp => exact (Reps.none _ _)); intro v208 w10 ho11 hb hg_ hnew_; clear hg_ hnew_; (first | rw [← Ny207.out] at ho11 | (simp only [Int.reduceToNat] at ho11; rw [← Ny207.out] at ho11)); have n0_ := Aside0.mk (Kd.N_lower ho11 (below_size (by repeat (first | (with_reducible first | exact HB.out | apply below_alloc | apply pw_below_drewN | apply below_drew1) | exact HB.out)))); have n1_ := Aside0.mk (below_step (by repeat (first | (with_reducible first | exact HB.out | apply below_alloc | apply pw_below_drewN | apply below_drew1) | exact HB.out)) hb); clear HB; have HO209 := n0_; have HB := n1_; clear n0_ n1_; clear hb ho11))
  go_loopg [5, 6] k (fun kq v5 v6 w' => ∃ (x5_1 : List (List Int)) (x6_1 : Int), v6 = .int .i64 x6_1 ∧ Aside0 (impl_partitions.l0 kq a0 x5_1 x6_1 = some r) ∧ Aside0 (kq ≤ k) ∧ Aside0 (Kd.N (Kd.slice 3 (Kd.int .i64)) 24 w' w.heap.size (fun k_ => (w.heap.size ≤ k_)) v5 x5_1) ∧ Aside0 (Below w.heap.size w w'))
  case atStart => exact ⟨(y207), (ji9), (by first | rfl | (simp; done) | (simp only [← hji9] <;> (first | rfl | simp)) | (simp [*]; done)), H', ⟨Nat.le_refl _⟩, ⟨by (with_reducible repeat (first | apply Kd.N_alloc | apply Kd.N_drewN | apply Kd.N_drew)); exact HO209.out⟩, ⟨by repeat (first | (with_reducible first | exact HB.out | apply below_alloc | apply pw_below_drewN | apply below_drew1) | exact HB.out)⟩⟩
  case round =>
   clear H'
   try clear c1
   try clear p2
   try clear c3
   try clear c3b0
   try clear c3b1
   obtain ⟨x5_1, x6_1, rfl, HA, HK1, HO_5, HB⟩ := hrel
   cases gk with
   | zero => exact absurd HA.out (by simp [impl_partitions.l0])
   | succ k1 =>
    have H := HA.out
    clear HA
    simp only [impl_partitions.l0] at H
    by_cases c12 : x6_1 > 0
    ·
     rw [if_pos c12] at H
     have c12b0 : decide (0 < x6_1) = true := decide_eq_true c12
     clear c12
     replace H := Option.bind_eq_some_iff.mp H
     obtain ⟨t210, A130, H⟩ := H
     replace H : (impl_partitions.l1 k1 a0 x5_1 x6_1 t210 (t210.length : Int) 0) = some r := H
     have A13 := Aside0.mk A130
     clear A130
     have H' := Aside0.mk H
     clear H
     go_wp2_with (first | ((with_reducible refine gate_callee (f := 149) rfl ?_); refine goesL_ (some 25) rfl rfl Tryz.func149 (by kernel_rfl) rfl #[.int .i64 (wrap64 (a0 - x6_1)), .int .i64 x6_1] rfl (by (try simp only [List.map_toArray, List.map_cons, List.map_nil]); first | done | rfl | (simp only [List.length_drop, List.length_take]; rfl)) ?_; (with_reducible refine (ih k1 (by have := HK1.out; omega) (wrap64 (a0 - x6_1)) x6_1 t210 _ A13.out).mono ?_); rintro e w14 ⟨v211, rfl, ho0, hb⟩; refine ⟨_, rfl, ?_⟩; have n0_ := Aside0.mk (Kd.N_elder' (by (with_reducible repeat (first | apply Kd.N_alloc | apply Kd.N_drewN | apply Kd.N_drew)); exact HO_5.out) (Kd.N_base ho0) hb); have n1_ := Aside0.mk (Kd.N_lower (Kd.N_mono (ok' := fun k_ => (w.heap.size ≤ k_) ∧ some k_ ≠ (u5 : Value).ownBlock) ho0 (fun k_ hk_ => ⟨(Nat.le_trans (below_size (by repeat (first | (with_reducible first | exact HB.out | apply below_alloc | apply pw_below_drewN | apply below_drew1) | exact HB.out))) hk_), (Kd.fresh' (Kd.N_lt (by (with_reducible repeat (first | apply Kd.N_alloc | apply Kd.N_drewN | apply Kd.N_drew)); exact HO_5.out)) k_ hk_)⟩)) (below_size (by repeat (first | (with_reducible first | exact HB.out | apply below_alloc | apply pw_below_drewN | apply below_drew1) | exact HB.out)))); have n2_ := Aside0.mk (below_step (by repeat (first | (with_reducible first | exact HB.out | apply below_alloc | apply pw_below_drewN | apply below_drew1) | exact HB.out)) hb); clear HO_5; clear HB; have HO_5 := n0_; have HO212 := n1_; have HB := n2_; clear n0_ n1_ n2_; (try clear hb); (try clear hb2); (try clear hk); (try clear hi); (try clear ho0); obtain ⟨Ao15, co15, eo15⟩ := Kd.N_slice HO212.out; subst eo15))
     go_loopg [5, 27] k1 (fun kq v5 v27 w' => ∃ (x5_2 : List (List Int)) (x27_2 : Int), v27 = .int .i64 x27_2 ∧ Aside0 (impl_partitions.l1 kq a0 x5_2 x6_1 t210 (t210.length : Int) x27_2 = some r) ∧ Aside0 (kq ≤ k1) ∧ Aside0 (Kd.N (Kd.slice 3 (Kd.int .i64)) 24 w' w.heap.size (fun k_ => (w.heap.size ≤ k_) ∧ some k_ ≠ ((.slice Ao15 t210.length co15) : Value).ownBlock) v5 x5_2) ∧ Aside0 (Kd.N (Kd.slice 3 (Kd.int .i64)) 24 w' w.heap.size (fun k_ => (w.heap.size ≤ k_) ∧ some k_ ≠ (v5 : Value).ownBlock) (.slice Ao15 t210.length co15) t210) ∧ Aside0 (Below w.heap.size w w'))
     case atStart => exact ⟨(x5_1), (0), (by first | rfl | (simp; done) | (simp [*]; done)), H', ⟨Nat.le_refl _⟩, ⟨by (with_reducible repeat (first | apply Kd.N_alloc | apply Kd.N_drewN | apply Kd.N_drew)); exact HO_5.out⟩, ⟨by (with_reducible repeat (first | apply Kd.N_alloc | apply Kd.N_drewN | apply Kd.N_drew)); exact HO212.out⟩, ⟨by repeat (first | (with_reducible first | exact HB.out | apply below_alloc | apply pw_below_drewN | apply below_drew1) | exact HB.out)⟩⟩
     case round =>
      clear H'
      try clear c1
      try clear p2
      try clear c3
      try clear c3b0
      try clear c3b1
      try clear p6
      try clear c12
      try clear c12b0
      try clear c14
      try clear p2
      obtain ⟨x5_2, x27_2, rfl, HA, HK2, HO_5, HO_25, HB⟩ := hrel
      cases gk with
      | zero => exact absurd HA.out (by simp [impl_partitions.l1])
      | succ k2 =>
       have H := HA.out
       clear HA
       simp only [impl_partitions.l1] at H
       by_cases c16 : x27_2 < (t210.length : Int)
       ·
        rw [if_pos c16] at H
        have c16b0 : decide (x27_2 < (t210.length : Int)) = true := decide_eq_true c16
        clear c16
        by_cases c17 : 0 ≤ x27_2
        ·
         rw [if_pos c17] at H
         have c17b0 : decide (0 ≤ x27_2) = true := decide_eq_true c17
         clear c17
         by_cases c18 : x27_2 < (t210.length : Int)
         ·
          rw [if_pos c18] at H
          have c18b0 : decide (x27_2 < (t210.length : Int)) = true := decide_eq_true c18
          clear c18
          obtain ⟨y214, hy214⟩ : ∃ y_ : List Int, y_ = (([x6_1] : List Int)) := ⟨_, rfl⟩
          replace H : (if y214.length + (rd_L3 t210 x27_2).length < 17592186044416 then (if x5_2.length < 5864062014805 then (impl_partitions.l1 k2 a0 (x5_2 ++ [(y214 ++ (rd_L3 t210 x27_2))]) x6_1 t210 (t210.length : Int) (wrap64 (x27_2 + 1))) else (none)) else (none)) = some r := by first | (rw [hy214]; with_reducible exact H) | (have H2_ := (Option.bind_some _ _).symm.trans H; rw [hy214]; with_reducible exact H2_) | (have H2_ := (Option.bind_some _ _).symm.trans H; with_reducible exact H2_) | with_reducible exact H | (rw [hy214]; exact H) | exact H
          have Ny214 := Aside0.mk hy214
          clear hy214
          by_cases c19 : y214.length + (rd_L3 t210 x27_2).length < 17592186044416
          ·
           rw [if_pos c19] at H
           have LMc19 := Aside0.mk c19
           clear c19
           obtain ⟨y217, hy217⟩ : ∃ y_ : List Int, y_ = (y214 ++ (rd_L3 t210 x27_2)) := ⟨_, rfl⟩
           replace H : (if x5_2.length < 5864062014805 then (impl_partitions.l1 k2 a0 (x5_2 ++ [y217]) x6_1 t210 (t210.length : Int) (wrap64 (x27_2 + 1))) else (none)) = some r := by first | (rw [hy217]; with_reducible exact H) | (have H2_ := (Option.bind_some _ _).symm.trans H; rw [hy217]; with_reducible exact H2_) | (have H2_ := (Option.bind_some _ _).symm.trans H; with_reducible exact H2_) | with_reducible exact H | (rw [hy217]; exact H) | exact H
           have Ny217 := Aside0.mk hy217
           clear hy217
           by_cases c20 : x5_2.length < 5864062014805
           ·
            rw [if_pos c20] at H
            have LMc20 := Aside0.mk c20
            clear c20
            obtain ⟨y220, hy220⟩ : ∃ y_ : List (List Int), y_ = (x5_2 ++ [y217]) := ⟨_, rfl⟩
            replace H : (impl_partitions.l1 k2 a0 y220 x6_1 t210 (t210.length : Int) (wrap64 (x27_2 + 1))) = some r := by first | (rw [hy220]; with_reducible exact H) | (have H2_ := (Option.bind_some _ _).symm.trans H; rw [hy220]; with_reducible exact H2_) | (have H2_ := (Option.bind_some _ _).symm.trans H; with_reducible exact H2_) | with_reducible exact H | (rw [hy220]; exact H) | exact H
            have Ny220 := Aside0.mk hy220
            clear hy220
            have H' := Aside0.mk H
            clear H
            have p213 : 0 ≤ (x27_2 : Int) := of_decide_eq_true (by first | (with_reducible assumption) | assumption)
            have q213 : x27_2 < (t210.length : Int) := of_decide_eq_true (by first | (with_reducible assumption) | assumption)
            obtain ⟨ad213, A213_0, c213_0, e213, hx213_0, hl213_0, hi213_0⟩ := at_L3 (Kd.N_reads' HO_25.out).2.2 x27_2 p213 q213
            cases e213
            obtain ⟨ce213, hce213, hMe213, hcc213⟩ := Kd.N_get HO_25.out [] x27_2 p213 (by first | exact q213 | exact of_decide_eq_true (by first | (with_reducible assumption) | assumption) | (have e_ := (Kd.N_reads' HO_25.out).1; omega))
            obtain ⟨ua213_0, uc213_0, rfl, ul213_0, ge213_0⟩ := Kd.FK_slice_open hMe213
            have hv213_0 := hcc213 0 _ rfl
            rw [Nat.add_zero, show ((Kd.slice 3 (Kd.int .i64))).sz = 1 from rfl, Nat.mul_one] at hv213_0
            replace hv213_0 := Option.some.inj (hv213_0.symm.trans hx213_0)
            injection hv213_0 with hva_ hvn_ hvc_
            rw [hva_] at ge213_0
            rw [hvc_] at ul213_0
            have HL213_0 := Aside0.mk (show Kd.V (Kd.int .i64) 3 _ w.heap.size _ _ (rd_L3 t210 x27_2) from Kd.V_mk ul213_0 ge213_0)
            clear hva_ hvn_ hvc_ ge213_0 ul213_0
            clear hcc213 hce213
            have HR213_0 := Aside0.mk hi213_0
            have HC213_0 := Aside0.mk hl213_0
            clear hi213_0 hl213_0
            replace p213 := eq_true p213
            replace q213 := eq_true q213
            go_wp2_with (first | ((with_reducible refine gate_dst (N := 33) rfl ?_); refine Kd.R_lit (Kd.int .i64) _ 3 ?hg (N := 33) ?hd (xs := ([x6_1] : List Int)) (inner := [.int .i64 x6_1]) (ok := fun _ => True) (okp := fun _ => True) ?hr ?hp (fun _ hk => hk) trivial (Below.refl _ _) (Nat.le_refl _) (by simp) ?_; (case hd => rfl); (case hg => rfl); (case hr => first | (go_simp; done) | (go_simp; rfl)); (case hp => exact (Reps.one (show Kd.M (Kd.int .i64) _ _ _ x6_1 [.int .i64 x6_1] from rfl) (Reps.none _ _))); intro v215 w21 ho22 hb hg_ hnew_; clear hg_ hnew_; (first | rw [← Ny214.out] at ho22 | (simp only [Int.reduceToNat] at ho22; rw [← Ny214.out] at ho22)); have n0_ := Aside0.mk (Kd.N_elder' (by (with_reducible repeat (first | apply Kd.N_alloc | apply Kd.N_drewN | apply Kd.N_drew)); exact HO_5.out) (Kd.R_base ho22) hb); have n1_ := Aside0.mk (Kd.N_elder' (by (with_reducible repeat (first | apply Kd.N_alloc | apply Kd.N_drewN | apply Kd.N_drew)); exact HO_25.out) (Kd.R_base ho22) hb); have n2_ := Aside0.mk (Kd.V_elder' (by (with_reducible repeat (first | apply Kd.V_alloc | apply Kd.V_drewN | apply Kd.V_drew)); exact HL213_0.out) (Kd.R_base ho22) hb); have n3_ := Aside0.mk (Kd.R_lower (Kd.R_newM (M := fun k_ => (w.heap.size ≤ k_)) ho22 (below_size (by repeat (first | (with_reducible first | exact HB.out | apply below_alloc | apply pw_below_drewN | apply below_drew1) | exact HB.out))) (fun k_ h_ => h_)) (below_size (by repeat (first | (with_reducible first | exact HB.out | apply below_alloc | apply pw_below_drewN | apply below_drew1) | exact HB.out)))); have n4_ := Aside0.mk (Kd.C_below (by repeat (first | (with_reducible exact HR213_0.out) | (with_reducible refine Kd.C_alloc ?_ _) | (with_reducible refine Kd.C_drewN ?_ _) | (with_reducible refine Kd.C_drew ?_) | exact HR213_0.out)) hb); have n5_ := Aside0.mk (below_step (by repeat (first | (with_reducible first | exact HB.out | apply below_alloc | apply pw_below_drewN | apply below_drew1) | exact HB.out)) hb); clear HO_5; clear HO_25; clear HL213_0; clear HR213_0; clear HB; have HO_5 := n0_; have HO_25 := n1_; have HL213_0 := n2_; have HO216 := n3_; have HR213_0 := n4_; have HB := n5_; clear n0_ n1_ n2_ n3_ n4_ n5_; clear hb ho22) | ((with_reducible refine gate_builtin (b := .append) (xs := #[.tmp 33, .tmp 34]) rfl ?_); at_builtin; refine Kd.R_append_rows (Kd.int .i64) (w0 := w) w.heap.size rfl (.tmp 33) (.tmp 34) 24 3 (.int .i64 0) 8 rfl Tryz.underlying24 info3 rfl (by decide) (by omega) v215 y214 (rd_L3 t210 x27_2) _ _ _ (fun k_ => (w.heap.size ≤ k_)) (fun _ => False) rfl rfl ?aO ?aR (fun _ _ h => h) (fun _ h => h.elim) ?aF ?aB ?aS ?aL ?_; (case aR => repeat (first | exact (by repeat (first | (with_reducible exact HR213_0.out) | (with_reducible refine Kd.C_alloc ?_ _) | (with_reducible refine Kd.C_drewN ?_ _) | (with_reducible refine Kd.C_drew ?_) | exact HR213_0.out)) | (with_reducible refine Kd.C_alloc ?_ _) | (with_reducible refine Kd.C_drewN ?_ _) | (with_reducible refine Kd.C_drew ?_))); (case aB => exact (by repeat (first | (with_reducible first | exact HB.out | apply below_alloc | apply pw_below_drewN | apply below_drew1) | exact HB.out))); (case aF => exact (fun k_ hk => (Nat.le_trans (below_size (by repeat (first | (with_reducible first | exact HB.out | apply below_alloc | apply pw_below_drewN | apply below_drew1) | exact HB.out))) hk))); (case aO => exact (by (with_reducible repeat (first | apply Kd.R_alloc | apply Kd.R_drewN | apply Kd.R_drew)); exact Kd.R_mono HO216.out (fun _ hk => hk.1))); (case aS => exact (below_size (by repeat (first | (with_reducible first | exact HB.out | apply below_alloc | apply pw_below_drewN | apply below_drew1) | exact HB.out)))); (case aL => have := LMc19.out; omega); intro v218 w23 ho hb hg hat; rw [← Ny217.out] at ho; have n0_ := Aside0.mk (Kd.N_afterv (ok := (fun k_ => (w.heap.size ≤ k_) ∧ some k_ ≠ (.slice (some ad213) t210.length co15 : Value).ownBlock)) (by (with_reducible repeat (first | apply Kd.N_alloc | apply Kd.N_drewN | apply Kd.N_drew)); exact HO_5.out) hg hat); have n1_ := Aside0.mk (Kd.N_afterv (ok := (fun k_ => (w.heap.size ≤ k_) ∧ some k_ ≠ (u5 : Value).ownBlock)) (by (with_reducible repeat (first | apply Kd.N_alloc | apply Kd.N_drewN | apply Kd.N_drew)); exact HO_25.out) hg hat); have n2_ := Aside0.mk (Kd.V_afterv (ok := (fun k_ => (w.heap.size ≤ k_) ∧ some k_ ≠ (u5 : Value).ownBlock ∧ some k_ ≠ (.slice (some ad213) t210.length co15 : Value).ownBlock)) (by (with_reducible repeat (first | apply Kd.V_alloc | apply Kd.V_drewN | apply Kd.V_drew)); exact Kd.V_mono HL213_0.out (fun _ hk => ⟨⟨hk.1.1.1, ⟨hk.1.1.2, hk.1.2⟩⟩, hk.2⟩)) hg hat); have n3_ := Aside0.mk (hb); have n4_ := Aside0.mk (ho); clear HO_5; clear HO_25; clear HL213_0; clear HB; clear HO216; have HO_5 := n0_; have HO_25 := n1_; have HL213_0 := n2_; have HB := n3_; have HO219 := n4_; clear n0_ n1_ n2_ n3_ n4_; clear ho hb hg hat; obtain ⟨Ao25, co25, eo25⟩ := Kd.R_slice HO219.out; subst eo25) | ((with_reducible refine gate_builtin (b := .append) (xs := #[.tmp 31, .tmp 36]) rfl ?_); at_builtin; refine Kd.N_append (Kd.slice 3 (Kd.int .i64)) (w0 := w) w.heap.size rfl (.tmp 31) (.tmp 36) 39 24 (.slice none 0 0) 24 rfl Tryz.underlying39 info24 rfl (by decide) (by omega) u5 x5_2 y217 [.slice Ao25 y217.length co25] (fun k_ => (w.heap.size ≤ k_) ∧ some k_ ≠ (.slice (some ad213) t210.length co15 : Value).ownBlock) (fun k_ => ((fun k_ => (w.heap.size ≤ k_) ∧ some k_ ≠ (.slice (some ad213) t210.length co15 : Value).ownBlock)) k_ ∧ some k_ ≠ (u5 : Value).ownBlock) rfl rfl ?aP (fun _ hk => hk) ?aF ?aO ?aB ?aS ?aL ?_; (case aP => exact (Kd.FK_slice_mk (Kd.R_reads' (Kd.R_mono (ok' := (fun k_ => ((fun k_ => (w.heap.size ≤ k_) ∧ some k_ ≠ (.slice (some ad213) t210.length co15 : Value).ownBlock)) k_ ∧ some k_ ≠ (u5 : Value).ownBlock)) (Kd.R_apart' (Kd.R_apart' (HO219.out) (Kd.N_typed HO_25.out) (by decide)) (Kd.N_typed HO_5.out) (by decide)) (fun k_ hk => ⟨⟨hk.1.1, hk.1.2⟩, hk.2⟩))).2.1 (Kd.R_F (Kd.R_mono (ok' := (fun k_ => ((fun k_ => (w.heap.size ≤ k_) ∧ some k_ ≠ (.slice (some ad213) t210.length co15 : Value).ownBlock)) k_ ∧ some k_ ≠ (u5 : Value).ownBlock)) (Kd.R_apart' (Kd.R_apart' (HO219.out) (Kd.N_typed HO_25.out) (by decide)) (Kd.N_typed HO_5.out) (by decide)) (fun k_ hk => ⟨⟨hk.1.1, hk.1.2⟩, hk.2⟩))))); (case aB => exact (by repeat (first | (with_reducible first | exact HB.out | apply below_alloc | apply pw_below_drewN | apply below_drew1) | exact HB.out))); (case aF => exact (fun k_ hk => ⟨(Nat.le_trans (below_size (by repeat (first | (with_reducible first | exact HB.out | apply below_alloc | apply pw_below_drewN | apply below_drew1) | exact HB.out))) hk), Kd.fresh' (Kd.N_lt (by (with_reducible repeat (first | apply Kd.N_alloc | apply Kd.N_drewN | apply Kd.N_drew)); exact HO_25.out)) k_ hk⟩)); (case aO => exact (by (with_reducible repeat (first | apply Kd.N_alloc | apply Kd.N_drewN | apply Kd.N_drew)); exact Kd.N_mono HO_5.out (fun _ hk => ⟨hk.1.1, hk.1.2⟩))); (case aS => exact (below_size (by repeat (first | (with_reducible first | exact HB.out | apply below_alloc | apply pw_below_drewN | apply below_drew1) | exact HB.out)))); (case aL => have := LMc20.out; omega); intro v221 w24 ho hb hg hat; rw [← Ny220.out] at ho; have n0_ := Aside0.mk (Kd.N_afterv (ok := (fun k_ => (w.heap.size ≤ k_) ∧ some k_ ≠ (.slice Ao25 y217.length co25 : Value).ownBlock)) (by (with_reducible repeat (first | apply Kd.N_alloc | apply Kd.N_drewN | apply Kd.N_drew)); exact Kd.N_mono HO_25.out (fun _ hk => ⟨⟨hk.1.1, hk.2⟩, hk.1.2⟩)) hg hat); have n1_ := Aside0.mk (Kd.V_afterv (ok := (fun k_ => (w.heap.size ≤ k_) ∧ some k_ ≠ (.slice (some ad213) t210.length co15 : Value).ownBlock ∧ some k_ ≠ (.slice Ao25 y217.length co25 : Value).ownBlock)) (by (with_reducible repeat (first | apply Kd.V_alloc | apply Kd.V_drewN | apply Kd.V_drew)); exact Kd.V_mono HL213_0.out (fun _ hk => ⟨⟨hk.1.1, ⟨hk.1.2.2, hk.2⟩⟩, hk.1.2.1⟩)) hg hat); have n2_ := Aside0.mk (hb); have n3_ := Aside0.mk (ho); clear HO_25; clear HL213_0; clear HB; clear HO_5; clear HO219; have HO_25 := n0_; have HL213_0 := n1_; have HB := n2_; have HO222 := n3_; clear n0_ n1_ n2_ n3_; clear ho hb hg hat))
            go_roundg k2
            case measure => have := HK1.out; have := HK2.out; omega
            case rel => exact ⟨(y220), (wrap64 (x27_2 + 1)), (by first | rfl | (simp; done) | (simp [*]; done)), H', ⟨by have := HK1.out; have := HK2.out; omega⟩, ⟨by (with_reducible repeat (first | apply Kd.N_alloc | apply Kd.N_drewN | apply Kd.N_drew)); exact HO222.out⟩, ⟨by (with_reducible repeat (first | apply Kd.N_alloc | apply Kd.N_drewN | apply Kd.N_drew)); exact Kd.N_mono HO_25.out (fun _ hk => ⟨hk.1.1, hk.2⟩)⟩, ⟨by repeat (first | (with_reducible first | exact HB.out | apply below_alloc | apply pw_below_drewN | apply below_drew1) | exact HB.out)⟩⟩
           ·
            rw [if_neg c20] at H
            exact absurd H (by simp)
          ·
           rw [if_neg c19] at H
           exact absurd H (by simp)
         ·
          rw [if_neg c18] at H
          exact absurd H (by simp)
        ·
         rw [if_neg c17] at H
         exact absurd H (by simp)
       ·
        rw [if_neg c16] at H
        have c16b0 : decide (x27_2 < (t210.length : Int)) = false := decide_eq_false c16
        clear c16
        have H' := Aside0.mk H
        clear H
        go_wp2
        go_roundg k2
        case measure => have := HK1.out; have := HK2.out; omega
        case rel => exact ⟨(x5_2), (wrap64 (x6_1 - 1)), (by first | rfl | (simp; done) | (simp [*]; done)), H', ⟨by have := HK1.out; have := HK2.out; omega⟩, ⟨by (with_reducible repeat (first | apply Kd.N_alloc | apply Kd.N_drewN | apply Kd.N_drew)); exact Kd.N_mono HO_5.out (fun _ hk => hk.1)⟩, ⟨by repeat (first | (with_reducible first | exact HB.out | apply below_alloc | apply pw_below_drewN | apply below_drew1) | exact HB.out)⟩⟩
    ·
     rw [if_neg c12] at H
     have c12b0 : decide (0 < x6_1) = false := decide_eq_false c12
     clear c12
     obtain rfl := Option.some.inj H
     go_wp2
     go_ret
     exact ⟨_, by first | rfl | (simp [errW_none, errW_some] <;> rfl) | (simp only [← hji9]; first | rfl | (simp [errW_none, errW_some] <;> rfl)) | (simp [*, errW_none, errW_some] <;> rfl), by (with_reducible repeat (first | apply Kd.N_alloc | apply Kd.N_drewN | apply Kd.N_drew)); exact HO_5.out, by repeat (first | (with_reducible first | exact HB.out | apply below_alloc | apply pw_below_drewN | apply below_drew1) | exact HB.out)⟩
def impl_PartitionsOf.f (k : Nat) (a0 : Int) : Option ((List (List Int))) := (impl_within.f a0 0 9).bind fun t223 => (if t223 = true then ((impl_partitions.f k a0 a0).bind fun t224 => (some t224)) else (some ([] : List (List Int))))
set_option maxHeartbeats 8000000 in
set_option maxRecDepth 100000 in
theorem impl_PartitionsOf.calls (k : Nat) (a0 : Int) (r : List (List Int)) (w : World) (h : impl_PartitionsOf.f k a0 = some r) :
  Calls Tryz.prog 107 #[.int .i64 a0] w fun e w' => ∃ v0_ : Value, e = .returned (v0_) ∧ Kd.N (Kd.slice 3 (Kd.int .i64)) 24 w' w.heap.size (fun k_ => (w.heap.size ≤ k_)) v0_ r ∧ Below w.heap.size w w' := by
 have HB := Aside0.mk (Below.refl w.heap.size w)
 have H : ((impl_within.f a0 0 9).bind fun t223 => (if t223 = true then ((impl_partitions.f k a0 a0).bind fun t224 => (some t224)) else (some ([] : List (List Int))))) = some r := h
 clear h
 replace H := Option.bind_eq_some_iff.mp H
 obtain ⟨t223, A20, H⟩ := H
 replace H : (if t223 = true then ((impl_partitions.f k a0 a0).bind fun t224 => (some t224)) else (some ([] : List (List Int)))) = some r := H
 have A2 := Aside0.mk A20
 clear A20
 by_cases c3 : t223 = true
 ·
  subst c3
  have H1 : ((impl_partitions.f k a0 a0).bind fun t224 => (some t224)) = some r := by rw [if_pos rfl] at H; exact H
  clear H
  have H := H1
  clear H1
  replace H := Option.bind_eq_some_iff.mp H
  obtain ⟨t224, A40, H⟩ := H
  replace H : (some t224) = some r := H
  have A4 := Aside0.mk A40
  clear A40
  obtain rfl := Option.some.inj H
  go_enter Tryz.func107, Tryz.ntmps107
  go_wp2_with (first | ((with_reducible refine gate_callee (f := 61) rfl ?_); refine goesL_ (some 4) rfl rfl Tryz.func61 (by kernel_rfl) rfl #[.int .i64 a0, .int .i64 0, .int .i64 9] rfl (by (try simp only [List.map_toArray, List.map_cons, List.map_nil]); first | done | rfl | (simp only [List.length_drop, List.length_take]; rfl)) ?_; (with_reducible refine (impl_within.calls a0 0 9 true _ A2.out).mono ?_); rintro e w' ⟨rfl, ⟨nd, rfl⟩⟩; refine ⟨_, rfl, ?_⟩) | ((with_reducible refine gate_callee (f := 149) rfl ?_); refine goesL_ (some 8) rfl rfl Tryz.func149 (by kernel_rfl) rfl #[.int .i64 a0, .int .i64 a0] rfl (by (try simp only [List.map_toArray, List.map_cons, List.map_nil]); first | done | rfl | (simp only [List.length_drop, List.length_take]; rfl)) ?_; (with_reducible refine (impl_partitions.calls k a0 a0 t224 _ A4.out).mono ?_); rintro e w5 ⟨v225, rfl, ho0, hb⟩; refine ⟨_, rfl, ?_⟩; have n0_ := Aside0.mk (Kd.N_lower (Kd.N_mono (ok' := fun k_ => (w.heap.size ≤ k_)) ho0 (fun k_ hk_ => (Nat.le_trans (below_size (by repeat (first | (with_reducible first | exact HB.out | apply below_alloc | apply pw_below_drewN | apply below_drew1) | exact HB.out))) hk_))) (below_size (by repeat (first | (with_reducible first | exact HB.out | apply below_alloc | apply pw_below_drewN | apply below_drew1) | exact HB.out)))); have n1_ := Aside0.mk (below_step (by repeat (first | (with_reducible first | exact HB.out | apply below_alloc | apply pw_below_drewN | apply below_drew1) | exact HB.out)) hb); clear HB; have HO226 := n0_; have HB := n1_; clear n0_ n1_; (try clear hb); (try clear hb2); (try clear hk); (try clear hi); (try clear ho0)))
  go_ret
  exact ⟨_, by first | rfl | (simp [errW_none, errW_some] <;> rfl) | (simp [*, errW_none, errW_some] <;> rfl), by (with_reducible repeat (first | apply Kd.N_alloc | apply Kd.N_drewN | apply Kd.N_drew)); exact HO226.out, by repeat (first | (with_reducible first | exact HB.out | apply below_alloc | apply pw_below_drewN | apply below_drew1) | exact HB.out)⟩
 ·
  replace c3 := Bool.eq_false_iff.mpr c3
  subst c3
  have H1 : (some ([] : List (List Int))) = some r := by rw [if_neg (show ¬ (false = true) by decide)] at H; exact H
  clear H
  have H := H1
  clear H1
  obtain rfl := Option.some.inj H
  go_enter Tryz.func107, Tryz.ntmps107
  go_wp2_with (first | ((with_reducible refine gate_callee (f := 61) rfl ?_); refine goesL_ (some 4) rfl rfl Tryz.func61 (by kernel_rfl) rfl #[.int .i64 a0, .int .i64 0, .int .i64 9] rfl (by (try simp only [List.map_toArray, List.map_cons, List.map_nil]); first | done | rfl | (simp only [List.length_drop, List.length_take]; rfl)) ?_; (with_reducible refine (impl_within.calls a0 0 9 false _ A2.out).mono ?_); rintro e w' ⟨rfl, ⟨nd, rfl⟩⟩; refine ⟨_, rfl, ?_⟩))
  go_ret
  exact ⟨_, by first | rfl | (simp [errW_none, errW_some] <;> rfl) | (simp [*, errW_none, errW_some] <;> rfl), by first | exact Kd.S_nil _ _ _ _ _ | exact Kd.N_nil _ _ _ _ _ | exact Kd.V_nil _ _ _ _ _ | exact Kd.Q_nil _ _ _ _ _ | exact Kd.R_nil _ _ _ _ _, by repeat (first | (with_reducible first | exact HB.out | apply below_alloc | apply pw_below_drewN | apply below_drew1) | exact HB.out)⟩
def impl_SizeOf.f (k : Nat) (l0 : List Int) : Option (Int) := (impl_IsPartition.f k l0).bind fun t227 => (if t227 = true then ((impl_sum.f k l0).bind fun t228 => (some t228)) else (some (-1)))
set_option maxHeartbeats 8000000 in
set_option maxRecDepth 100000 in
theorem impl_SizeOf.calls (k : Nat) (A0 : Option Addr) (c0 : Nat) (l0 : List Int) (r : Int) (w : World) (hr0 : Kd.C (Kd.int .i64) w A0 l0.length l0) (hc0 : l0.length ≤ c0) (h : impl_SizeOf.f k l0 = some r) :
  Calls Tryz.prog 122 #[.slice A0 l0.length c0] w fun e w' => e = .returned (.int .i64 r) ∧ Drawn0 w w' := by
 have HR0 := Aside0.mk hr0
 have HC0 := Aside0.mk hc0
 clear hr0 hc0
 have H : ((impl_IsPartition.f k l0).bind fun t227 => (if t227 = true then ((impl_sum.f k l0).bind fun t228 => (some t228)) else (some (-1)))) = some r := h
 clear h
 replace H := Option.bind_eq_some_iff.mp H
 obtain ⟨t227, A20, H⟩ := H
 replace H : (if t227 = true then ((impl_sum.f k l0).bind fun t228 => (some t228)) else (some (-1))) = some r := H
 have A2 := Aside0.mk A20
 clear A20
 by_cases c3 : t227 = true
 ·
  subst c3
  have H1 : ((impl_sum.f k l0).bind fun t228 => (some t228)) = some r := by rw [if_pos rfl] at H; exact H
  clear H
  have H := H1
  clear H1
  replace H := Option.bind_eq_some_iff.mp H
  obtain ⟨t228, A40, H⟩ := H
  replace H : (some t228) = some r := H
  have A4 := Aside0.mk A40
  clear A40
  obtain rfl := Option.some.inj H
  go_enter Tryz.func122, Tryz.ntmps122
  go_wp2_with (first | ((with_reducible refine gate_callee (f := 48) rfl ?_); refine goesL_ (some 4) rfl rfl Tryz.func48 (by kernel_rfl) rfl #[.slice A0 l0.length c0] rfl (by (try simp only [List.map_toArray, List.map_cons, List.map_nil]); first | done | rfl | (simp only [List.length_drop, List.length_take]; rfl)) ?_; (with_reducible refine (impl_IsPartition.calls k _ _ l0 true _ ?side1 ?side2 A2.out).mono ?_); (case side1 => repeat (first | exact HR0.out | (with_reducible refine Kd.C_alloc ?_ _) | (with_reducible refine Kd.C_drewN ?_ _) | (with_reducible refine Kd.C_drew ?_))); (case side2 => exact HC0.out); rintro e w' ⟨rfl, ⟨nd, rfl⟩⟩; refine ⟨_, rfl, ?_⟩) | ((with_reducible refine gate_callee (f := 50) rfl ?_); refine goesL_ (some 7) rfl rfl Tryz.func50 (by kernel_rfl) rfl #[.slice A0 l0.length c0] rfl (by (try simp only [List.map_toArray, List.map_cons, List.map_nil]); first | done | rfl | (simp only [List.length_drop, List.length_take]; rfl)) ?_; (with_reducible refine (impl_sum.calls k _ _ l0 t228 _ ?side1 ?side2 A4.out).mono ?_); (case side1 => repeat (first | exact HR0.out | (with_reducible refine Kd.C_alloc ?_ _) | (with_reducible refine Kd.C_drewN ?_ _) | (with_reducible refine Kd.C_drew ?_))); (case side2 => exact HC0.out); rintro e w' ⟨rfl, ⟨nd, rfl⟩⟩; refine ⟨_, rfl, ?_⟩))
  go_ret
  exact ⟨by first | rfl | (simp; done) | (simp [*]; done), by repeat (first | exact Drawn0.refl _ | apply Drawn0.step)⟩
 ·
  replace c3 := Bool.eq_false_iff.mpr c3
  subst c3
  have H1 : (some (-1)) = some r := by rw [if_neg (show ¬ (false = true) by decide)] at H; exact H
  clear H
  have H := H1
  clear H1
  obtain rfl := Option.some.inj H
  go_enter Tryz.func122, Tryz.ntmps122
  go_wp2_with (first | ((with_reducible refine gate_callee (f := 48) rfl ?_); refine goesL_ (some 4) rfl rfl Tryz.func48 (by kernel_rfl) rfl #[.slice A0 l0.length c0] rfl (by (try simp only [List.map_toArray, List.map_cons, List.map_nil]); first | done | rfl | (simp only [List.length_drop, List.length_take]; rfl)) ?_; (with_reducible refine (impl_IsPartition.calls k _ _ l0 false _ ?side1 ?side2 A2.out).mono ?_); (case side1 => repeat (first | exact HR0.out | (with_reducible refine Kd.C_alloc ?_ _) | (with_reducible refine Kd.C_drewN ?_ _) | (with_reducible refine Kd.C_drew ?_))); (case side2 => exact HC0.out); rintro e w' ⟨rfl, ⟨nd, rfl⟩⟩; refine ⟨_, rfl, ?_⟩))
  go_ret
  exact ⟨by first | rfl | (simp; done) | (simp [*]; done), by repeat (first | exact Drawn0.refl _ | apply Drawn0.step)⟩
def spec_l1In.f (a0 : Int) (a1 : Int) (a2 : Int) : Option (Bool) := if a0 ≥ a1 then (some (decide (a0 ≤ a2))) else (some false)
set_option maxHeartbeats 8000000 in
set_option maxRecDepth 100000 in
theorem spec_l1In.calls (a0 : Int) (a1 : Int) (a2 : Int) (r : Bool) (w : World) (h : spec_l1In.f a0 a1 a2 = some r) :
    Calls Tryz.prog 66 #[.int .i64 a0, .int .i64 a1, .int .i64 a2] w fun e w' => e = .returned (.bool r) ∧ Drawn0 w w' := by
  have H : (if a0 ≥ a1 then (some (decide (a0 ≤ a2))) else (some false)) = some r := h
  clear h
  by_cases c4 : a0 ≥ a1
  · rw [if_pos c4] at H
    have c4b0 : decide (a1 ≤ a0) = true := decide_eq_true c4
    clear c4
    obtain rfl := Option.some.inj H
    go_enter Tryz.func66, Tryz.ntmps66
    go_wp2
    go_ret
    exact ⟨by first | rfl | (simp; done) | (simp [*]; done), by repeat (first | exact Drawn0.refl _ | apply Drawn0.step)⟩
  · rw [if_neg c4] at H
    have c4b0 : decide (a1 ≤ a0) = false := decide_eq_false c4
    clear c4
    obtain rfl := Option.some.inj H
    go_enter Tryz.func66, Tryz.ntmps66
    go_wp2
    go_ret
    exact ⟨by first | rfl | (simp; done) | (simp [*]; done), by repeat (first | exact Drawn0.refl _ | apply Drawn0.step)⟩
def spec_l1Min.f (a0 : Int) (a1 : Int) : Option (Int) := if a0 < a1 then (some a0) else (some a1)
set_option maxHeartbeats 8000000 in
set_option maxRecDepth 100000 in
theorem spec_l1Min.calls (a0 : Int) (a1 : Int) (r : Int) (w : World) (h : spec_l1Min.f a0 a1 = some r) :
    Calls Tryz.prog 119 #[.int .i64 a0, .int .i64 a1] w fun e w' => e = .returned (.int .i64 r) ∧ Drawn0 w w' := by
  have H : (if a0 < a1 then (some a0) else (some a1)) = some r := h
  clear h
  by_cases c3 : a0 < a1
  · rw [if_pos c3] at H
    have c3b0 : decide (a0 < a1) = true := decide_eq_true c3
    clear c3
    obtain rfl := Option.some.inj H
    go_enter Tryz.func119, Tryz.ntmps119
    go_wp2
    go_ret
    exact ⟨by first | rfl | (simp; done) | (simp [*]; done), by repeat (first | exact Drawn0.refl _ | apply Drawn0.step)⟩
  · rw [if_neg c3] at H
    have c3b0 : decide (a0 < a1) = false := decide_eq_false c3
    clear c3
    obtain rfl := Option.some.inj H
    go_enter Tryz.func119, Tryz.ntmps119
    go_wp2
    go_ret
    exact ⟨by first | rfl | (simp; done) | (simp [*]; done), by repeat (first | exact Drawn0.refl _ | apply Drawn0.step)⟩
mutual
def spec_l2All.l0 : Nat → Int → List (List Int) → Int → Option ((List (List Int)))
  | 0, _, _, _ => none
  | k + 1, x0, x5, x6 => if x6 ≥ 1 then ((spec_l2All.f k (wrap64 (x0 - x6)) x6).bind fun t249 => (spec_l2All.l1 k x0 x5 x6 t249 0)) else (some x5)
def spec_l2All.l1 : Nat → Int → List (List Int) → Int → List (List Int) → Int → Option ((List (List Int)))
  | 0, _, _, _, _, _ => none
  | k + 1, x0, x5, x6, x7, x8 => if x8 < (x7.length : Int) then ((some (([x6] : List Int) : List Int)).bind fun y252 => (if 0 ≤ x8 then (if y252.length + (rd_L3 x7 x8).length < 17592186044416 then (if x5.length < 5864062014805 then (spec_l2All.l1 k x0 (x5 ++ [(y252 ++ (rd_L3 x7 x8))]) x6 x7 (wrap64 (x8 + 1))) else (none)) else (none)) else (none))) else (spec_l2All.l0 k x0 x5 (wrap64 (x6 - 1)))
def spec_l2All.f : Nat → Int → Int → Option ((List (List Int)))
  | 0, _, _ => none
  | k + 1, a0, a1 => (some (([] : List (List Int)) : List (List Int))).bind fun y239 => (if a0 = 0 then (if y239.length < 5864062014805 then (some (y239 ++ [(([] : List Int))])) else (none)) else ((spec_l1Min.f a0 a1).bind fun t248 => (spec_l2All.l0 k a0 y239 t248)))
end
set_option maxHeartbeats 8000000 in
set_option maxRecDepth 100000 in
theorem spec_l2All.calls (k : Nat) : ∀ (a0 : Int) (a1 : Int) (r : List (List Int)) (w : World) (h : spec_l2All.f k a0 a1 = some r),
  Calls Tryz.prog 68 #[.int .i64 a0, .int .i64 a1] w fun e w' => ∃ v0_ : Value, e = .returned (v0_) ∧ Kd.S (Kd.slice 3 (Kd.int .i64)) 24 w' w.heap.size (fun _ => True) v0_ r ∧ Below w.heap.size w w' := by
 induction k using Nat.strongRecOn with
 | _ k ih =>
 intro a0 a1 r w h
 cases k with
 | zero => exact absurd h (by simp [spec_l2All.f])
 | succ k =>
 simp only [spec_l2All.f] at h
 have HB := Aside0.mk (Below.refl w.heap.size w)
 have H : ((some (([] : List (List Int)) : List (List Int))).bind fun y239 => (if a0 = 0 then (if y239.length < 5864062014805 then (some (y239 ++ [(([] : List Int))])) else (none)) else ((spec_l1Min.f a0 a1).bind fun t248 => (spec_l2All.l0 k a0 y239 t248)))) = some r := h
 clear h
 obtain ⟨y239, hy239⟩ : ∃ y_ : List (List Int), y_ = (([] : List (List Int))) := ⟨_, rfl⟩
 replace H : (if a0 = 0 then (if y239.length < 5864062014805 then (some (y239 ++ [(([] : List Int))])) else (none)) else ((spec_l1Min.f a0 a1).bind fun t248 => (spec_l2All.l0 k a0 y239 t248))) = some r := by first | (rw [hy239]; with_reducible exact H) | (have H2_ := (Option.bind_some _ _).symm.trans H; rw [hy239]; with_reducible exact H2_) | (have H2_ := (Option.bind_some _ _).symm.trans H; with_reducible exact H2_) | with_reducible exact H | (rw [hy239]; exact H) | exact H
 have Ny239 := Aside0.mk hy239
 clear hy239
 by_cases c3 : a0 = 0
 ·
  rw [if_pos c3] at H
  have c3b0 : (a0 == 0) = true := beq_iff_eq.mpr c3
  have c3b1 : (a0 != 0) = false := bne_eq_false_iff_eq.mpr c3
  clear c3
  obtain ⟨y242, hy242⟩ : ∃ y_ : List Int, y_ = (([] : List Int)) := ⟨_, rfl⟩
  replace H : (if y239.length < 5864062014805 then (some (y239 ++ [y242])) else (none)) = some r := by first | (rw [hy242]; with_reducible exact H) | (have H2_ := (Option.bind_some _ _).symm.trans H; rw [hy242]; with_reducible exact H2_) | (have H2_ := (Option.bind_some _ _).symm.trans H; with_reducible exact H2_) | with_reducible exact H | (rw [hy242]; exact H) | exact H
  have Ny242 := Aside0.mk hy242
  clear hy242
  by_cases c4 : y239.length < 5864062014805
  ·
   rw [if_pos c4] at H
   have LMc4 := Aside0.mk c4
   clear c4
   obtain ⟨y245, hy245⟩ : ∃ y_ : List (List Int), y_ = (y239 ++ [y242]) := ⟨_, rfl⟩
   replace H : (some y245) = some r := by first | (rw [hy245]; with_reducible exact H) | (have H2_ := (Option.bind_some _ _).symm.trans H; rw [hy245]; with_reducible exact H2_) | (have H2_ := (Option.bind_some _ _).symm.trans H; with_reducible exact H2_) | with_reducible exact H | (rw [hy245]; exact H) | exact H
   have Ny245 := Aside0.mk hy245
   clear hy245
   obtain rfl := Option.some.inj H
   go_enter Tryz.func68, Tryz.ntmps68
   go_wp2_with (first | ((with_reducible refine gate_dst (N := 9) rfl ?_); refine Kd.S_lit (Kd.slice 3 (Kd.int .i64)) _ 24 ?hg (N := 9) ?hd (xs := ([] : List (List Int))) (inner := []) (ok := fun _ => True) (okp := fun _ => True) ?hr ?hp (fun _ hk => hk) trivial (Below.refl _ _) (Nat.le_refl _) (by simp) ?_; (case hd => rfl); (case hg => rfl); (case hr => first | (go_simp; done) | (go_simp; rfl)); (case hp => exact (Reps.none _ _)); intro v240 w5 ho6 hb hg_ hnew_; clear hg_ hnew_; (first | rw [← Ny239.out] at ho6 | (simp only [Int.reduceToNat] at ho6; rw [← Ny239.out] at ho6)); have n0_ := Aside0.mk (Kd.S_lower ho6 (below_size (by repeat (first | (with_reducible first | exact HB.out | apply below_alloc | apply pw_below_drewN | apply below_drew1) | exact HB.out)))); have n1_ := Aside0.mk (below_step (by repeat (first | (with_reducible first | exact HB.out | apply below_alloc | apply pw_below_drewN | apply below_drew1) | exact HB.out)) hb); clear HB; have HO241 := n0_; have HB := n1_; clear n0_ n1_; clear hb ho6) | ((with_reducible refine gate_dst (N := 13) rfl ?_); refine Kd.R_lit (Kd.int .i64) _ 3 ?hg (N := 13) ?hd (xs := ([] : List Int)) (inner := []) (ok := fun _ => True) (okp := fun _ => True) ?hr ?hp (fun _ hk => hk) trivial (Below.refl _ _) (Nat.le_refl _) (by simp) ?_; (case hd => rfl); (case hg => rfl); (case hr => first | (go_simp; done) | (go_simp; rfl)); (case hp => exact (Reps.none _ _)); intro v243 w7 ho8 hb hg_ hnew_; clear hg_ hnew_; (first | rw [← Ny242.out] at ho8 | (simp only [Int.reduceToNat] at ho8; rw [← Ny242.out] at ho8)); have n0_ := Aside0.mk (Kd.S_elder' (by (with_reducible repeat (first | apply Kd.S_alloc | apply Kd.S_drewN | apply Kd.S_drew)); exact HO241.out) (Kd.R_base ho8) hb); have n1_ := Aside0.mk (Kd.R_lower ho8 (below_size (by repeat (first | (with_reducible first | exact HB.out | apply below_alloc | apply pw_below_drewN | apply below_drew1) | exact HB.out)))); have n2_ := Aside0.mk (below_step (by repeat (first | (with_reducible first | exact HB.out | apply below_alloc | apply pw_below_drewN | apply below_drew1) | exact HB.out)) hb); clear HO241; clear HB; have HO241 := n0_; have HO244 := n1_; have HB := n2_; clear n0_ n1_ n2_; clear hb ho8; obtain ⟨Ao10, co10, eo10⟩ := Kd.R_slice HO244.out; subst eo10) | ((with_reducible refine gate_builtin (b := .append) (xs := #[.tmp 12, .tmp 14]) rfl ?_); at_builtin; refine Kd.S_append (Kd.slice 3 (Kd.int .i64)) (w0 := w) w.heap.size rfl (.tmp 12) (.tmp 14) 39 24 (.slice none 0 0) 24 rfl Tryz.underlying39 info24 rfl (by decide) (by omega) v240 y239 y242 [.slice Ao10 y242.length co10] (fun _ => True) (fun k_ => some k_ = (.slice Ao10 y242.length co10 : Value).ownBlock) rfl rfl ?aP (fun k_ hk_ => ((Kd.R_mono (ok' := fun k_ => ((fun _ => True)) k_ ∧ some k_ ≠ (v240 : Value).ownBlock) (Kd.R_apart' (HO244.out) (Kd.S_typed HO241.out) (by decide)) (fun k_ hk => ⟨trivial, hk.2⟩))).1 k_ hk_.symm) ?aF ?aO ?aB ?aS ?aL ?_; (case aP => exact Kd.M_row (Kd.R_mono (Kd.R_tight rfl (Kd.R_mono (ok' := fun k_ => ((fun _ => True)) k_ ∧ some k_ ≠ (v240 : Value).ownBlock) (Kd.R_apart' (HO244.out) (Kd.S_typed HO241.out) (by decide)) (fun k_ hk => ⟨trivial, hk.2⟩))) (fun _ h_ => h_))); (case aB => exact (by repeat (first | (with_reducible first | exact HB.out | apply below_alloc | apply pw_below_drewN | apply below_drew1) | exact HB.out))); (case aF => exact (fun _ _ => trivial)); (case aO => exact (by (with_reducible repeat (first | apply Kd.S_alloc | apply Kd.S_drewN | apply Kd.S_drew)); exact Kd.S_mono HO241.out (fun k_ hk => ⟨trivial, fun e_ => hk.2 e_⟩))); (case aS => exact (below_size (by repeat (first | (with_reducible first | exact HB.out | apply below_alloc | apply pw_below_drewN | apply below_drew1) | exact HB.out)))); (case aL => have := LMc4.out; omega); intro v246 w9 ho hb hg hat; rw [← Ny245.out] at ho; have n0_ := Aside0.mk (hb); have n1_ := Aside0.mk (ho); clear HB; clear HO241; clear HO244; have HB := n0_; have HO247 := n1_; clear n0_ n1_; clear ho hb hg hat))
   go_ret
   exact ⟨_, by first | rfl | (simp [errW_none, errW_some] <;> rfl) | (simp [*, errW_none, errW_some] <;> rfl), by (with_reducible repeat (first | apply Kd.S_alloc | apply Kd.S_drewN | apply Kd.S_drew)); exact HO247.out, by repeat (first | (with_reducible first | exact HB.out | apply below_alloc | apply pw_below_drewN | apply below_drew1) | exact HB.out)⟩
  ·
   rw [if_neg c4] at H
   exact absurd H (by simp)
 ·
  rw [if_neg c3] at H
  have c3b0 : (a0 == 0) = false := beq_eq_false_iff_ne.mpr c3
  have c3b1 : (a0 != 0) = true := bne_iff_ne.mpr c3
  replace H := Option.bind_eq_some_iff.mp H
  obtain ⟨t248, A110, H⟩ := H
  replace H : (spec_l2All.l0 k a0 y239 t248) = some r := H
  have A11 := Aside0.mk A110
  clear A110
  have H' := Aside0.mk H
  clear H
  go_enter Tryz.func68, Tryz.ntmps68
  go_wp2_with (first | ((with_reducible refine gate_dst (N := 9) rfl ?_); refine Kd.S_lit (Kd.slice 3 (Kd.int .i64)) _ 24 ?hg (N := 9) ?hd (xs := ([] : List (List Int))) (inner := []) (ok := fun _ => True) (okp := fun _ => True) ?hr ?hp (fun _ hk => hk) trivial (Below.refl _ _) (Nat.le_refl _) (by simp) ?_; (case hd => rfl); (case hg => rfl); (case hr => first | (go_simp; done) | (go_simp; rfl)); (case hp => exact (Reps.none _ _)); intro v240 w12 ho13 hb hg_ hnew_; clear hg_ hnew_; (first | rw [← Ny239.out] at ho13 | (simp only [Int.reduceToNat] at ho13; rw [← Ny239.out] at ho13)); have n0_ := Aside0.mk (Kd.S_lower ho13 (below_size (by repeat (first | (with_reducible first | exact HB.out | apply below_alloc | apply pw_below_drewN | apply below_drew1) | exact HB.out)))); have n1_ := Aside0.mk (below_step (by repeat (first | (with_reducible first | exact HB.out | apply below_alloc | apply pw_below_drewN | apply below_drew1) | exact HB.out)) hb); clear HB; have HO241 := n0_; have HB := n1_; clear n0_ n1_; clear hb ho13) | ((with_reducible refine gate_callee (f := 119) rfl ?_); refine goesL_ (some 18) rfl rfl Tryz.func119 (by kernel_rfl) rfl #[.int .i64 a0, .int .i64 a1] rfl (by (try simp only [List.map_toArray, List.map_cons, List.map_nil]); first | done | rfl | (simp only [List.length_drop, List.length_take]; rfl)) ?_; (with_reducible refine (spec_l1Min.calls a0 a1 t248 _ A11.out).mono ?_); rintro e w' ⟨rfl, ⟨nd, rfl⟩⟩; refine ⟨_, rfl, ?_⟩))
  go_loopg [5, 6] k (fun kq v5 v6 w' => ∃ (x5_1 : List (List Int)) (x6_1 : Int), v6 = .int .i64 x6_1 ∧ Aside0 (spec_l2All.l0 kq a0 x5_1 x6_1 = some r) ∧ Aside0 (kq ≤ k) ∧ Aside0 (Kd.S (Kd.slice 3 (Kd.int .i64)) 24 w' w.heap.size (fun _ => True) v5 x5_1) ∧ Aside0 (Below w.heap.size w w'))
  case atStart => exact ⟨(y239), (t248), (by first | rfl | (simp; done) | (simp [*]; done)), H', ⟨Nat.le_refl _⟩, ⟨by (with_reducible repeat (first | apply Kd.S_alloc | apply Kd.S_drewN | apply Kd.S_drew)); exact HO241.out⟩, ⟨by repeat (first | (with_reducible first | exact HB.out | apply below_alloc | apply pw_below_drewN | apply below_drew1) | exact HB.out)⟩⟩
  case round =>
   clear H'
   try clear c1
   try clear p2
   try clear c3
   try clear c3b0
   try clear c3b1
   try clear c4
   try clear c6
   try clear c11
   obtain ⟨x5_1, x6_1, rfl, HA, HK1, HO_5, HB⟩ := hrel
   cases gk with
   | zero => exact absurd HA.out (by simp [spec_l2All.l0])
   | succ k1 =>
    have H := HA.out
    clear HA
    simp only [spec_l2All.l0] at H
    by_cases c14 : x6_1 ≥ 1
    ·
     rw [if_pos c14] at H
     have c14b0 : decide (1 ≤ x6_1) = true := decide_eq_true c14
     clear c14
     replace H := Option.bind_eq_some_iff.mp H
     obtain ⟨t249, A150, H⟩ := H
     replace H : (spec_l2All.l1 k1 a0 x5_1 x6_1 t249 0) = some r := H
     have A15 := Aside0.mk A150
     clear A150
     have H' := Aside0.mk H
     clear H
     go_wp2_with (first | ((with_reducible refine gate_callee (f := 68) rfl ?_); refine goesL_ (some 27) rfl rfl Tryz.func68 (by kernel_rfl) rfl #[.int .i64 (wrap64 (a0 - x6_1)), .int .i64 x6_1] rfl (by (try simp only [List.map_toArray, List.map_cons, List.map_nil]); first | done | rfl | (simp only [List.length_drop, List.length_take]; rfl)) ?_; (with_reducible refine (ih k1 (by have := HK1.out; omega) (wrap64 (a0 - x6_1)) x6_1 t249 _ A15.out).mono ?_); rintro e w16 ⟨v250, rfl, ho0, hb⟩; refine ⟨_, rfl, ?_⟩; have n0_ := Aside0.mk (Kd.S_elder' (by (with_reducible repeat (first | apply Kd.S_alloc | apply Kd.S_drewN | apply Kd.S_drew)); exact HO_5.out) (Kd.S_base ho0) hb); have n1_ := Aside0.mk (Kd.S_lower (Kd.S_new' ho0 (Kd.S_lt (by (with_reducible repeat (first | apply Kd.S_alloc | apply Kd.S_drewN | apply Kd.S_drew)); exact HO_5.out))) (below_size (by repeat (first | (with_reducible first | exact HB.out | apply below_alloc | apply pw_below_drewN | apply below_drew1) | exact HB.out)))); have n2_ := Aside0.mk (below_step (by repeat (first | (with_reducible first | exact HB.out | apply below_alloc | apply pw_below_drewN | apply below_drew1) | exact HB.out)) hb); clear HO_5; clear HB; have HO_5 := n0_; have HO251 := n1_; have HB := n2_; clear n0_ n1_ n2_; (try clear hb); (try clear hb2); (try clear hk); (try clear hi); (try clear ho0)))
     go_loopg [5, 8] k1 (fun kq v5 v8 w' => ∃ (x5_2 : List (List Int)) (x8_2 : Int), v8 = .int .i64 x8_2 ∧ Aside0 (spec_l2All.l1 kq a0 x5_2 x6_1 t249 x8_2 = some r) ∧ Aside0 (kq ≤ k1) ∧ Aside0 (Kd.S (Kd.slice 3 (Kd.int .i64)) 24 w' w.heap.size (fun k_ => some k_ ≠ (v250 : Value).ownBlock) v5 x5_2) ∧ Aside0 (Kd.S (Kd.slice 3 (Kd.int .i64)) 24 w' w.heap.size (fun k_ => some k_ ≠ (v5 : Value).ownBlock) v250 t249) ∧ Aside0 (Below w.heap.size w w'))
     case atStart => exact ⟨(x5_1), (0), (by first | rfl | (simp; done) | (simp [*]; done)), H', ⟨Nat.le_refl _⟩, ⟨by (with_reducible repeat (first | apply Kd.S_alloc | apply Kd.S_drewN | apply Kd.S_drew)); exact Kd.S_mono HO_5.out (fun _ hk => hk.2)⟩, ⟨by (with_reducible repeat (first | apply Kd.S_alloc | apply Kd.S_drewN | apply Kd.S_drew)); exact Kd.S_mono HO251.out (fun _ hk => hk.2)⟩, ⟨by repeat (first | (with_reducible first | exact HB.out | apply below_alloc | apply pw_below_drewN | apply below_drew1) | exact HB.out)⟩⟩
     case round =>
      clear H'
      try clear c1
      try clear p2
      try clear c3
      try clear c3b0
      try clear c3b1
      try clear c4
      try clear c6
      try clear p6
      try clear c11
      try clear c14
      try clear c14b0
      try clear p2
      obtain ⟨x5_2, x8_2, rfl, HA, HK2, HO_5, HO_7, HB⟩ := hrel
      cases gk with
      | zero => exact absurd HA.out (by simp [spec_l2All.l1])
      | succ k2 =>
       have H := HA.out
       clear HA
       simp only [spec_l2All.l1] at H
       by_cases c17 : x8_2 < (t249.length : Int)
       ·
        rw [if_pos c17] at H
        have c17b0 : decide (x8_2 < (t249.length : Int)) = true := decide_eq_true c17
        clear c17
        obtain ⟨y252, hy252⟩ : ∃ y_ : List Int, y_ = (([x6_1] : List Int)) := ⟨_, rfl⟩
        replace H : (if 0 ≤ x8_2 then (if y252.length + (rd_L3 t249 x8_2).length < 17592186044416 then (if x5_2.length < 5864062014805 then (spec_l2All.l1 k2 a0 (x5_2 ++ [(y252 ++ (rd_L3 t249 x8_2))]) x6_1 t249 (wrap64 (x8_2 + 1))) else (none)) else (none)) else (none)) = some r := by first | (rw [hy252]; with_reducible exact H) | (have H2_ := (Option.bind_some _ _).symm.trans H; rw [hy252]; with_reducible exact H2_) | (have H2_ := (Option.bind_some _ _).symm.trans H; with_reducible exact H2_) | with_reducible exact H | (rw [hy252]; exact H) | exact H
        have Ny252 := Aside0.mk hy252
        clear hy252
        by_cases c18 : 0 ≤ x8_2
        ·
         rw [if_pos c18] at H
         have c18b0 : decide (0 ≤ x8_2) = true := decide_eq_true c18
         clear c18
         by_cases c19 : y252.length + (rd_L3 t249 x8_2).length < 17592186044416
         ·
          rw [if_pos c19] at H
          have LMc19 := Aside0.mk c19
          clear c19
          obtain ⟨y256, hy256⟩ : ∃ y_ : List Int, y_ = (y252 ++ (rd_L3 t249 x8_2)) := ⟨_, rfl⟩
          replace H : (if x5_2.length < 5864062014805 then (spec_l2All.l1 k2 a0 (x5_2 ++ [y256]) x6_1 t249 (wrap64 (x8_2 + 1))) else (none)) = some r := by first | (rw [hy256]; with_reducible exact H) | (have H2_ := (Option.bind_some _ _).symm.trans H; rw [hy256]; with_reducible exact H2_) | (have H2_ := (Option.bind_some _ _).symm.trans H; with_reducible exact H2_) | with_reducible exact H | (rw [hy256]; exact H) | exact H
          have Ny256 := Aside0.mk hy256
          clear hy256
          by_cases c20 : x5_2.length < 5864062014805
          ·
           rw [if_pos c20] at H
           have LMc20 := Aside0.mk c20
           clear c20
           obtain ⟨y259, hy259⟩ : ∃ y_ : List (List Int), y_ = (x5_2 ++ [y256]) := ⟨_, rfl⟩
           replace H : (spec_l2All.l1 k2 a0 y259 x6_1 t249 (wrap64 (x8_2 + 1))) = some r := by first | (rw [hy259]; with_reducible exact H) | (have H2_ := (Option.bind_some _ _).symm.trans H; rw [hy259]; with_reducible exact H2_) | (have H2_ := (Option.bind_some _ _).symm.trans H; with_reducible exact H2_) | with_reducible exact H | (rw [hy259]; exact H) | exact H
           have Ny259 := Aside0.mk hy259
           clear hy259
           have H' := Aside0.mk H
           clear H
           obtain ⟨Ao21, co21, eo21⟩ := Kd.S_slice HO_7.out
           subst eo21
           go_wp2_with (first | ((with_reducible refine gate_dst (N := 36) rfl ?_); refine Kd.R_lit (Kd.int .i64) _ 3 ?hg (N := 36) ?hd (xs := ([x6_1] : List Int)) (inner := [.int .i64 x6_1]) (ok := fun _ => True) (okp := fun _ => True) ?hr ?hp (fun _ hk => hk) trivial (Below.refl _ _) (Nat.le_refl _) (by simp) ?_; (case hd => rfl); (case hg => rfl); (case hr => first | (go_simp; done) | (go_simp; rfl)); (case hp => exact (Reps.one (show Kd.M (Kd.int .i64) _ _ _ x6_1 [.int .i64 x6_1] from rfl) (Reps.none _ _))); intro v253 w22 ho23 hb hg_ hnew_; clear hg_ hnew_; (first | rw [← Ny252.out] at ho23 | (simp only [Int.reduceToNat] at ho23; rw [← Ny252.out] at ho23)); have n0_ := Aside0.mk (Kd.S_elder' (by (with_reducible repeat (first | apply Kd.S_alloc | apply Kd.S_drewN | apply Kd.S_drew)); exact HO_5.out) (Kd.R_base ho23) hb); have n1_ := Aside0.mk (Kd.S_elder' (by (with_reducible repeat (first | apply Kd.S_alloc | apply Kd.S_drewN | apply Kd.S_drew)); exact HO_7.out) (Kd.R_base ho23) hb); have n2_ := Aside0.mk (Kd.R_lower ho23 (below_size (by repeat (first | (with_reducible first | exact HB.out | apply below_alloc | apply pw_below_drewN | apply below_drew1) | exact HB.out)))); have n3_ := Aside0.mk (below_step (by repeat (first | (with_reducible first | exact HB.out | apply below_alloc | apply pw_below_drewN | apply below_drew1) | exact HB.out)) hb); clear HO_5; clear HO_7; clear HB; have HO_5 := n0_; have HO_7 := n1_; have HO254 := n2_; have HB := n3_; clear n0_ n1_ n2_ n3_; clear hb ho23; have p255 : 0 ≤ (x8_2 : Int) := of_decide_eq_true (by first | (with_reducible assumption) | assumption); have q255 : x8_2 < (t249.length : Int) := of_decide_eq_true (by first | (with_reducible assumption) | assumption); obtain ⟨ad255, A255_0, c255_0, e255, hx255_0, hl255_0, hi255_0⟩ := at_L3 (Kd.S_reads' HO_7.out).2.2 x8_2 p255 q255; cases e255; obtain ⟨ce255, hce255, hMe255, hcc255⟩ := Kd.S_get HO_7.out [] x8_2 p255 (by first | exact q255 | exact of_decide_eq_true (by first | (with_reducible assumption) | assumption) | (have e_ := (Kd.S_reads' HO_7.out).1; omega)); obtain ⟨ve255_0, rfl, ge255_0⟩ := hMe255; have hv255_0 := hcc255 0 _ rfl; rw [Nat.add_zero, show ((Kd.slice 3 (Kd.int .i64))).sz = 1 from rfl, Nat.mul_one] at hv255_0; replace hv255_0 := Option.some.inj (hv255_0.symm.trans hx255_0); rw [hv255_0] at ge255_0; have HL255_0 := Aside0.mk (show Kd.R (Kd.int .i64) 3 _ _ _ _ (rd_L3 t249 x8_2) from ge255_0); clear hv255_0 ge255_0; clear hcc255 hce255; have HR255_0 := Aside0.mk hi255_0; have HC255_0 := Aside0.mk hl255_0; clear hi255_0 hl255_0; replace p255 := eq_true p255; replace q255 := eq_true q255) | ((with_reducible refine gate_builtin (b := .append) (xs := #[.tmp 36, .tmp 40]) rfl ?_); at_builtin; refine Kd.R_append_rows (Kd.int .i64) (w0 := w) w.heap.size rfl (.tmp 36) (.tmp 40) 24 3 (.int .i64 0) 8 rfl Tryz.underlying24 info3 rfl (by decide) (by omega) v253 y252 (rd_L3 t249 x8_2) _ _ _ (fun _ => True) (fun _ => False) rfl rfl ?aO ?aR (fun _ _ h => h) (fun _ h => h.elim) ?aF ?aB ?aS ?aL ?_; (case aR => repeat (first | exact (by repeat (first | (with_reducible exact HR255_0.out) | (with_reducible refine Kd.C_alloc ?_ _) | (with_reducible refine Kd.C_drewN ?_ _) | (with_reducible refine Kd.C_drew ?_) | exact HR255_0.out)) | (with_reducible refine Kd.C_alloc ?_ _) | (with_reducible refine Kd.C_drewN ?_ _) | (with_reducible refine Kd.C_drew ?_))); (case aB => exact (by repeat (first | (with_reducible first | exact HB.out | apply below_alloc | apply pw_below_drewN | apply below_drew1) | exact HB.out))); (case aF => exact (fun _ _ => trivial)); (case aO => exact (by (with_reducible repeat (first | apply Kd.R_alloc | apply Kd.R_drewN | apply Kd.R_drew)); exact HO254.out)); (case aS => exact (below_size (by repeat (first | (with_reducible first | exact HB.out | apply below_alloc | apply pw_below_drewN | apply below_drew1) | exact HB.out)))); (case aL => have := LMc19.out; omega); intro v257 w24 ho hb hg hat; rw [← Ny256.out] at ho; have n0_ := Aside0.mk (Kd.S_after (ok := (fun k_ => some k_ ≠ (.slice (some ad255) t249.length co21 : Value).ownBlock)) (by (with_reducible repeat (first | apply Kd.S_alloc | apply Kd.S_drewN | apply Kd.S_drew)); exact HO_5.out) hg hat); have n1_ := Aside0.mk (Kd.S_after (ok := (fun k_ => some k_ ≠ (u5 : Value).ownBlock)) (by (with_reducible repeat (first | apply Kd.S_alloc | apply Kd.S_drewN | apply Kd.S_drew)); exact HO_7.out) hg hat); have n2_ := Aside0.mk (Kd.R_after (ok := (fun k_ => some k_ ≠ (u5 : Value).ownBlock ∧ some k_ ≠ (.slice (some ad255) t249.length co21 : Value).ownBlock)) (by (with_reducible repeat (first | apply Kd.R_alloc | apply Kd.R_drewN | apply Kd.R_drew)); exact Kd.R_mono HL255_0.out (fun _ hk => ⟨⟨hk.1.1, hk.2⟩, hk.1.2⟩)) hg hat); have n3_ := Aside0.mk (hb); have n4_ := Aside0.mk (ho); clear HO_5; clear HO_7; clear HL255_0; clear HB; clear HO254; have HO_5 := n0_; have HO_7 := n1_; have HL255_0 := n2_; have HB := n3_; have HO258 := n4_; clear n0_ n1_ n2_ n3_ n4_; clear ho hb hg hat; obtain ⟨Ao26, co26, eo26⟩ := Kd.R_slice HO258.out; subst eo26) | ((with_reducible refine gate_builtin (b := .append) (xs := #[.tmp 34, .tmp 42]) rfl ?_); at_builtin; refine Kd.S_append (Kd.slice 3 (Kd.int .i64)) (w0 := w) w.heap.size rfl (.tmp 34) (.tmp 42) 39 24 (.slice none 0 0) 24 rfl Tryz.underlying39 info24 rfl (by decide) (by omega) u5 x5_2 y256 [.slice Ao26 y256.length co26] (fun k_ => some k_ ≠ (.slice (some ad255) t249.length co21 : Value).ownBlock) (fun k_ => some k_ = (.slice Ao26 y256.length co26 : Value).ownBlock) rfl rfl ?aP (fun k_ hk_ => ((Kd.R_mono (ok' := fun k_ => ((fun k_ => some k_ ≠ (.slice (some ad255) t249.length co21 : Value).ownBlock)) k_ ∧ some k_ ≠ (u5 : Value).ownBlock) (Kd.R_apart' (Kd.R_apart' (HO258.out) (Kd.S_typed HO_7.out) (by decide)) (Kd.S_typed HO_5.out) (by decide)) (fun k_ hk => ⟨hk.1.2, hk.2⟩))).1 k_ hk_.symm) ?aF ?aO ?aB ?aS ?aL ?_; (case aP => exact Kd.M_row (Kd.R_mono (Kd.R_tight rfl (Kd.R_mono (ok' := fun k_ => ((fun k_ => some k_ ≠ (.slice (some ad255) t249.length co21 : Value).ownBlock)) k_ ∧ some k_ ≠ (u5 : Value).ownBlock) (Kd.R_apart' (Kd.R_apart' (HO258.out) (Kd.S_typed HO_7.out) (by decide)) (Kd.S_typed HO_5.out) (by decide)) (fun k_ hk => ⟨hk.1.2, hk.2⟩))) (fun _ h_ => h_))); (case aB => exact (by repeat (first | (with_reducible first | exact HB.out | apply below_alloc | apply pw_below_drewN | apply below_drew1) | exact HB.out))); (case aF => exact (fun k_ hk => Kd.fresh' (Kd.S_lt (by (with_reducible repeat (first | apply Kd.S_alloc | apply Kd.S_drewN | apply Kd.S_drew)); exact HO_7.out)) k_ hk)); (case aO => exact (by (with_reducible repeat (first | apply Kd.S_alloc | apply Kd.S_drewN | apply Kd.S_drew)); exact Kd.S_mono HO_5.out (fun k_ hk => ⟨hk.1, fun e_ => hk.2 e_⟩))); (case aS => exact (below_size (by repeat (first | (with_reducible first | exact HB.out | apply below_alloc | apply pw_below_drewN | apply below_drew1) | exact HB.out)))); (case aL => have := LMc20.out; omega); intro v260 w25 ho hb hg hat; rw [← Ny259.out] at ho; have n0_ := Aside0.mk (Kd.S_after (ok := (fun k_ => some k_ ≠ (.slice Ao26 y256.length co26 : Value).ownBlock)) (by (with_reducible repeat (first | apply Kd.S_alloc | apply Kd.S_drewN | apply Kd.S_drew)); exact Kd.S_mono HO_7.out (fun _ hk => ⟨hk.2, hk.1⟩)) hg hat); have n1_ := Aside0.mk (Kd.R_after (ok := (fun k_ => some k_ ≠ (.slice (some ad255) t249.length co21 : Value).ownBlock ∧ some k_ ≠ (.slice Ao26 y256.length co26 : Value).ownBlock)) (by (with_reducible repeat (first | apply Kd.R_alloc | apply Kd.R_drewN | apply Kd.R_drew)); exact Kd.R_mono HL255_0.out (fun _ hk => ⟨⟨hk.1.2, hk.2⟩, hk.1.1⟩)) hg hat); have n2_ := Aside0.mk (hb); have n3_ := Aside0.mk (ho); clear HO_7; clear HL255_0; clear HB; clear HO_5; clear HO258; have HO_7 := n0_; have HL255_0 := n1_; have HB := n2_; have HO261 := n3_; clear n0_ n1_ n2_ n3_; clear ho hb hg hat))
           go_roundg k2
           case measure => have := HK1.out; have := HK2.out; omega
           case rel => exact ⟨(y259), (wrap64 (x8_2 + 1)), (by first | rfl | (simp; done) | (simp [*]; done)), H', ⟨by have := HK1.out; have := HK2.out; omega⟩, ⟨by (with_reducible repeat (first | apply Kd.S_alloc | apply Kd.S_drewN | apply Kd.S_drew)); exact HO261.out⟩, ⟨by (with_reducible repeat (first | apply Kd.S_alloc | apply Kd.S_drewN | apply Kd.S_drew)); exact Kd.S_mono HO_7.out (fun _ hk => hk.2)⟩, ⟨by repeat (first | (with_reducible first | exact HB.out | apply below_alloc | apply pw_below_drewN | apply below_drew1) | exact HB.out)⟩⟩
          ·
           rw [if_neg c20] at H
           exact absurd H (by simp)
         ·
          rw [if_neg c19] at H
          exact absurd H (by simp)
        ·
         rw [if_neg c18] at H
         exact absurd H (by simp)
       ·
        rw [if_neg c17] at H
        have c17b0 : decide (x8_2 < (t249.length : Int)) = false := decide_eq_false c17
        clear c17
        have H' := Aside0.mk H
        clear H
        obtain ⟨Ao27, co27, eo27⟩ := Kd.S_slice HO_7.out
        subst eo27
        go_wp2
        go_roundg k2
        case measure => have := HK1.out; have := HK2.out; omega
        case rel => exact ⟨(x5_2), (wrap64 (x6_1 - 1)), (by first | rfl | (simp; done) | (simp [*]; done)), H', ⟨by have := HK1.out; have := HK2.out; omega⟩, ⟨by (with_reducible repeat (first | apply Kd.S_alloc | apply Kd.S_drewN | apply Kd.S_drew)); exact Kd.S_mono HO_5.out (fun _ hk => trivial)⟩, ⟨by repeat (first | (with_reducible first | exact HB.out | apply below_alloc | apply pw_below_drewN | apply below_drew1) | exact HB.out)⟩⟩
    ·
     rw [if_neg c14] at H
     have c14b0 : decide (1 ≤ x6_1) = false := decide_eq_false c14
     clear c14
     obtain rfl := Option.some.inj H
     go_wp2
     go_ret
     exact ⟨_, by first | rfl | (simp [errW_none, errW_some] <;> rfl) | (simp [*, errW_none, errW_some] <;> rfl), by (with_reducible repeat (first | apply Kd.S_alloc | apply Kd.S_drewN | apply Kd.S_drew)); exact HO_5.out, by repeat (first | (with_reducible first | exact HB.out | apply below_alloc | apply pw_below_drewN | apply below_drew1) | exact HB.out)⟩
def spec_PartitionsOf.f (k : Nat) (a0 : Int) : Option ((List (List Int))) := (spec_l1In.f a0 0 9).bind fun t262 => (if t262 = true then ((spec_l2All.f k a0 a0).bind fun t263 => (some t263)) else (some (([] : List (List Int)))))
set_option maxHeartbeats 8000000 in
set_option maxRecDepth 100000 in
theorem spec_PartitionsOf.calls (k : Nat) (a0 : Int) (r : List (List Int)) (w : World) (h : spec_PartitionsOf.f k a0 = some r) :
  Calls Tryz.prog 24 #[.int .i64 a0] w fun e w' => ∃ v0_ : Value, e = .returned (v0_) ∧ Kd.S (Kd.slice 3 (Kd.int .i64)) 24 w' w.heap.size (fun _ => True) v0_ r ∧ Below w.heap.size w w' := by
 have HB := Aside0.mk (Below.refl w.heap.size w)
 have H : ((spec_l1In.f a0 0 9).bind fun t262 => (if t262 = true then ((spec_l2All.f k a0 a0).bind fun t263 => (some t263)) else (some (([] : List (List Int)))))) = some r := h
 clear h
 replace H := Option.bind_eq_some_iff.mp H
 obtain ⟨t262, A20, H⟩ := H
 replace H : (if t262 = true then ((spec_l2All.f k a0 a0).bind fun t263 => (some t263)) else (some (([] : List (List Int))))) = some r := H
 have A2 := Aside0.mk A20
 clear A20
 by_cases c3 : t262 = true
 ·
  subst c3
  have H1 : ((spec_l2All.f k a0 a0).bind fun t263 => (some t263)) = some r := by rw [if_pos rfl] at H; exact H
  clear H
  have H := H1
  clear H1
  replace H := Option.bind_eq_some_iff.mp H
  obtain ⟨t263, A40, H⟩ := H
  replace H : (some t263) = some r := H
  have A4 := Aside0.mk A40
  clear A40
  obtain rfl := Option.some.inj H
  go_enter Tryz.func24, Tryz.ntmps24
  go_wp2_with (first | ((with_reducible refine gate_callee (f := 66) rfl ?_); refine goesL_ (some 4) rfl rfl Tryz.func66 (by kernel_rfl) rfl #[.int .i64 a0, .int .i64 0, .int .i64 9] rfl (by (try simp only [List.map_toArray, List.map_cons, List.map_nil]); first | done | rfl | (simp only [List.length_drop, List.length_take]; rfl)) ?_; (with_reducible refine (spec_l1In.calls a0 0 9 true _ A2.out).mono ?_); rintro e w' ⟨rfl, ⟨nd, rfl⟩⟩; refine ⟨_, rfl, ?_⟩) | ((with_reducible refine gate_callee (f := 68) rfl ?_); refine goesL_ (some 9) rfl rfl Tryz.func68 (by kernel_rfl) rfl #[.int .i64 a0, .int .i64 a0] rfl (by (try simp only [List.map_toArray, List.map_cons, List.map_nil]); first | done | rfl | (simp only [List.length_drop, List.length_take]; rfl)) ?_; (with_reducible refine (spec_l2All.calls k a0 a0 t263 _ A4.out).mono ?_); rintro e w5 ⟨v264, rfl, ho0, hb⟩; refine ⟨_, rfl, ?_⟩; have n0_ := Aside0.mk (Kd.S_lower ho0 (below_size (by repeat (first | (with_reducible first | exact HB.out | apply below_alloc | apply pw_below_drewN | apply below_drew1) | exact HB.out)))); have n1_ := Aside0.mk (below_step (by repeat (first | (with_reducible first | exact HB.out | apply below_alloc | apply pw_below_drewN | apply below_drew1) | exact HB.out)) hb); clear HB; have HO265 := n0_; have HB := n1_; clear n0_ n1_; (try clear hb); (try clear hb2); (try clear hk); (try clear hi); (try clear ho0)))
  go_ret
  exact ⟨_, by first | rfl | (simp [errW_none, errW_some] <;> rfl) | (simp [*, errW_none, errW_some] <;> rfl), by (with_reducible repeat (first | apply Kd.S_alloc | apply Kd.S_drewN | apply Kd.S_drew)); exact HO265.out, by repeat (first | (with_reducible first | exact HB.out | apply below_alloc | apply pw_below_drewN | apply below_drew1) | exact HB.out)⟩
 ·
  replace c3 := Bool.eq_false_iff.mpr c3
  subst c3
  have H1 : (some (([] : List (List Int)))) = some r := by rw [if_neg (show ¬ (false = true) by decide)] at H; exact H
  clear H
  have H := H1
  clear H1
  obtain ⟨y266, hy266⟩ : ∃ y_ : List (List Int), y_ = (([] : List (List Int))) := ⟨_, rfl⟩
  replace H : (some y266) = some r := by first | (rw [hy266]; with_reducible exact H) | (have H2_ := (Option.bind_some _ _).symm.trans H; rw [hy266]; with_reducible exact H2_) | (have H2_ := (Option.bind_some _ _).symm.trans H; with_reducible exact H2_) | with_reducible exact H | (rw [hy266]; exact H) | exact H
  have Ny266 := Aside0.mk hy266
  clear hy266
  obtain rfl := Option.some.inj H
  go_enter Tryz.func24, Tryz.ntmps24
  go_wp2_with (first | ((with_reducible refine gate_callee (f := 66) rfl ?_); refine goesL_ (some 4) rfl rfl Tryz.func66 (by kernel_rfl) rfl #[.int .i64 a0, .int .i64 0, .int .i64 9] rfl (by (try simp only [List.map_toArray, List.map_cons, List.map_nil]); first | done | rfl | (simp only [List.length_drop, List.length_take]; rfl)) ?_; (with_reducible refine (spec_l1In.calls a0 0 9 false _ A2.out).mono ?_); rintro e w' ⟨rfl, ⟨nd, rfl⟩⟩; refine ⟨_, rfl, ?_⟩) | ((with_reducible refine gate_dst (N := 6) rfl ?_); refine Kd.S_lit (Kd.slice 3 (Kd.int .i64)) _ 24 ?hg (N := 6) ?hd (xs := ([] : List (List Int))) (inner := []) (ok := fun _ => True) (okp := fun _ => True) ?hr ?hp (fun _ hk => hk) trivial (Below.refl _ _) (Nat.le_refl _) (by simp) ?_; (case hd => rfl); (case hg => rfl); (case hr => first | (go_simp; done) | (go_simp; rfl)); (case hp => exact (Reps.none _ _)); intro v267 w6 ho7 hb hg_ hnew_; clear hg_ hnew_; (first | rw [← Ny266.out] at ho7 | (simp only [Int.reduceToNat] at ho7; rw [← Ny266.out] at ho7)); have n0_ := Aside0.mk (Kd.S_lower ho7 (below_size (by repeat (first | (with_reducible first | exact HB.out | apply below_alloc | apply pw_below_drewN | apply below_drew1) | exact HB.out)))); have n1_ := Aside0.mk (below_step (by repeat (first | (with_reducible first | exact HB.out | apply below_alloc | apply pw_below_drewN | apply below_drew1) | exact HB.out)) hb); clear HB; have HO268 := n0_; have HB := n1_; clear n0_ n1_; clear hb ho7))
  go_ret
  exact ⟨_, by first | rfl | (simp [errW_none, errW_some] <;> rfl) | (simp [*, errW_none, errW_some] <;> rfl), by (with_reducible repeat (first | apply Kd.S_alloc | apply Kd.S_drewN | apply Kd.S_drew)); exact HO268.out, by repeat (first | (with_reducible first | exact HB.out | apply below_alloc | apply pw_below_drewN | apply below_drew1) | exact HB.out)⟩
def spec_l2Size.l0 : Nat → List Int → Int → Int → Option (Int)
  | 0, _, _, _ => none
  | k + 1, x0, x3, x4 => if x4 < (x0.length : Int) then (if 0 ≤ x4 then (spec_l2Size.l0 k x0 (wrap64 (x3 + (rd x0 x4))) (wrap64 (x4 + 1))) else (none)) else (some x3)
def spec_l2Size.f (k : Nat) (l0 : List Int) : Option (Int) := spec_l2Size.l0 k l0 0 0
set_option maxHeartbeats 8000000 in
set_option maxRecDepth 100000 in
theorem spec_l2Size.calls (k : Nat) (A0 : Option Addr) (c0 : Nat) (l0 : List Int) (r : Int) (w : World) (hr0 : Kd.C (Kd.int .i64) w A0 l0.length l0) (hc0 : l0.length ≤ c0) (h : spec_l2Size.f k l0 = some r) :
    Calls Tryz.prog 55 #[.slice A0 l0.length c0] w fun e w' => e = .returned (.int .i64 r) ∧ Drawn0 w w' := by
  have HR0 := Aside0.mk hr0
  have HC0 := Aside0.mk hc0
  clear hr0 hc0
  have H : (spec_l2Size.l0 k l0 0 0) = some r := h
  clear h
  have H' := Aside0.mk H
  clear H
  go_enter Tryz.func55, Tryz.ntmps55
  go_wp2
  go_loopg [3, 4] k (fun kq v3 v4 w' => ∃ (x3_1 : Int) (x4_1 : Int), v3 = .int .i64 x3_1 ∧ v4 = .int .i64 x4_1 ∧ Aside0 (spec_l2Size.l0 kq l0 x3_1 x4_1 = some r) ∧ Aside0 (kq ≤ k) ∧ Drawn0 w w')
  case atStart => exact ⟨(0), (0), (by first | rfl | (simp; done) | (simp [*]; done)), (by first | rfl | (simp; done) | (simp [*]; done)), H', ⟨Nat.le_refl _⟩, by repeat (first | exact Drawn0.refl _ | apply Drawn0.step)⟩
  case round =>
    clear H'
    obtain ⟨x3_1, x4_1, rfl, rfl, HA, HK1, ⟨m1, rfl⟩⟩ := hrel
    cases gk with
    | zero => exact absurd HA.out (by simp [spec_l2Size.l0])
    | succ k1 =>
      have H := HA.out
      clear HA
      simp only [spec_l2Size.l0] at H
      by_cases c2 : x4_1 < (l0.length : Int)
      · rw [if_pos c2] at H
        have c2b0 : decide (x4_1 < (l0.length : Int)) = true := decide_eq_true c2
        clear c2
        by_cases c3 : 0 ≤ x4_1
        · rw [if_pos c3] at H
          have c3b0 : decide (0 ≤ x4_1) = true := decide_eq_true c3
          clear c3
          have H' := Aside0.mk H
          clear H
          have p269 : 0 ≤ (x4_1 : Int) := of_decide_eq_true (by first | (with_reducible assumption) | assumption)
          have q269 : x4_1 < (l0.length : Int) := of_decide_eq_true (by first | (with_reducible assumption) | assumption)
          obtain ⟨ad269, e269, hx269_0⟩ := Kd.at_int HR0.out x4_1 p269 q269
          cases e269
          replace p269 := eq_true p269
          replace q269 := eq_true q269
          go_wp2
          go_roundg k1
          case measure => have := HK1.out; omega
          case rel => exact ⟨(wrap64 (x3_1 + (rd l0 x4_1))), (wrap64 (x4_1 + 1)), (by first | rfl | (simp; done) | (simp [*]; done)), (by first | rfl | (simp; done) | (simp [*]; done)), H', ⟨by have := HK1.out; omega⟩, by repeat (first | exact Drawn0.refl _ | apply Drawn0.step)⟩
        · rw [if_neg c3] at H
          exact absurd H (by simp)
      · rw [if_neg c2] at H
        have c2b0 : decide (x4_1 < (l0.length : Int)) = false := decide_eq_false c2
        clear c2
        obtain rfl := Option.some.inj H
        go_wp2
        go_ret
        exact ⟨by first | rfl | (simp; done) | (simp [*]; done), by repeat (first | exact Drawn0.refl _ | apply Drawn0.step)⟩
mutual
def spec_IsPartition.l0 : Nat → List Int → Int → Int → Option (Bool)
  | 0, _, _, _ => none
  | k + 1, x0, x3, x4 => if x4 < (x0.length : Int) then (if 0 ≤ x4 then ((spec_l1In.f (rd x0 x4) 1 9).bind fun t271 => (if t271 = true then (if x4 > 0 then (if 0 ≤ (wrap64 (x4 - 1)) then (if (wrap64 (x4 - 1)) < (x0.length : Int) then (spec_IsPartition.j1 k x0 x3 x4 (decide ((rd x0 x4) > (rd x0 (wrap64 (x4 - 1)))))) else (none)) else (none)) else (spec_IsPartition.j1 k x0 x3 x4 false)) else (spec_IsPartition.j1 k x0 x3 x4 true))) else (none)) else (some true)
def spec_IsPartition.j1 : Nat → List Int → Int → Int → Bool → Option (Bool)
  | 0, _, _, _, _ => none
  | k + 1, x0, x3, x4, x32 => if x32 = true then (some false) else (if 0 ≤ x4 then (if x4 < (x0.length : Int) then (if (wrap64 (x3 + (rd x0 x4))) > 9 then (some false) else (spec_IsPartition.l0 k x0 (wrap64 (x3 + (rd x0 x4))) (wrap64 (x4 + 1)))) else (none)) else (none))
end
def spec_IsPartition.f (k : Nat) (l0 : List Int) : Option (Bool) := spec_IsPartition.l0 k l0 0 0
set_option maxHeartbeats 8000000 in
set_option maxRecDepth 100000 in
theorem spec_IsPartition.calls (k : Nat) (A0 : Option Addr) (c0 : Nat) (l0 : List Int) (r : Bool) (w : World) (hr0 : Kd.C (Kd.int .i64) w A0 l0.length l0) (hc0 : l0.length ≤ c0) (h : spec_IsPartition.f k l0 = some r) :
  Calls Tryz.prog 22 #[.slice A0 l0.length c0] w fun e w' => e = .returned (.bool r) ∧ Drawn0 w w' := by
 have HR0 := Aside0.mk hr0
 have HC0 := Aside0.mk hc0
 clear hr0 hc0
 have H : (spec_IsPartition.l0 k l0 0 0) = some r := h
 clear h
 have H' := Aside0.mk H
 clear H
 go_enter Tryz.func22, Tryz.ntmps22
 go_wp2
 repeat (go_quiet (fail); try go_wp2)
 go_loopg [3, 4] k (fun kq v3 v4 w' => ∃ (x3_1 : Int) (x4_1 : Int), v3 = .int .i64 x3_1 ∧ v4 = .int .i64 x4_1 ∧ Aside0 (spec_IsPartition.l0 kq l0 x3_1 x4_1 = some r) ∧ Aside0 (kq ≤ k) ∧ Drawn0 w w')
 case atStart => exact ⟨(0), (0), (by first | rfl | (simp; done) | (simp [*]; done)), (by first | rfl | (simp; done) | (simp [*]; done)), H', ⟨Nat.le_refl _⟩, by repeat (first | exact Drawn0.refl _ | apply Drawn0.step)⟩
 case round =>
  clear H'
  obtain ⟨x3_1, x4_1, rfl, rfl, HA, HK1, ⟨m1, rfl⟩⟩ := hrel
  cases gk with
  | zero => exact absurd HA.out (by simp [spec_IsPartition.l0])
  | succ k1 =>
   have H := HA.out
   clear HA
   simp only [spec_IsPartition.l0] at H
   by_cases c2 : x4_1 < (l0.length : Int)
   ·
    rw [if_pos c2] at H
    have c2b0 : decide (x4_1 < (l0.length : Int)) = true := decide_eq_true c2
    clear c2
    have HC3 := Aside0.mk H
    clear H
    go_upto_region 5 with (fail)
    repeat (go_quiet (fail); go_upto_region 5 with (fail))
    go_cut [32] (fun v32 wc => ∃ (kq : Nat) (x32_2 : Bool), v32 = .bool x32_2 ∧ Aside0 (spec_IsPartition.j1 kq l0 x3_1 x4_1 x32_2 = some r) ∧ Aside0 (kq ≤ k1) ∧ Drawn0 w wc)
    case first =>
     have H := HC3.out
     clear HC3
     by_cases c4 : 0 ≤ x4_1
     ·
      rw [if_pos c4] at H
      have c4b0 : decide (0 ≤ x4_1) = true := decide_eq_true c4
      clear c4
      (first | rw [c4b0] | (simp only [i64_w, i32_w]; rw [c4b0]) | skip)
      replace H := Option.bind_eq_some_iff.mp H
      obtain ⟨t271, A50, H⟩ := H
      replace H : (if t271 = true then (if x4_1 > 0 then (if 0 ≤ (wrap64 (x4_1 - 1)) then (if (wrap64 (x4_1 - 1)) < (l0.length : Int) then (spec_IsPartition.j1 k1 l0 x3_1 x4_1 (decide ((rd l0 x4_1) > (rd l0 (wrap64 (x4_1 - 1)))))) else (none)) else (none)) else (spec_IsPartition.j1 k1 l0 x3_1 x4_1 false)) else (spec_IsPartition.j1 k1 l0 x3_1 x4_1 true)) = some r := H
      have A5 := Aside0.mk A50
      clear A50
      by_cases c6 : t271 = true
      ·
       subst c6
       have H1 : (if x4_1 > 0 then (if 0 ≤ (wrap64 (x4_1 - 1)) then (if (wrap64 (x4_1 - 1)) < (l0.length : Int) then (spec_IsPartition.j1 k1 l0 x3_1 x4_1 (decide ((rd l0 x4_1) > (rd l0 (wrap64 (x4_1 - 1)))))) else (none)) else (none)) else (spec_IsPartition.j1 k1 l0 x3_1 x4_1 false)) = some r := by rw [if_pos rfl] at H; exact H
       clear H
       have H := H1
       clear H1
       by_cases c7 : x4_1 > 0
       ·
        rw [if_pos c7] at H
        have c7b0 : decide (0 < x4_1) = true := decide_eq_true c7
        clear c7
        obtain ⟨ji8, hji8⟩ : ∃ j_ : Int, (wrap64 (x4_1 - 1)) = j_ := ⟨_, rfl⟩
        replace H : (if 0 ≤ (ji8) then (if (ji8) < (l0.length : Int) then (spec_IsPartition.j1 k1 l0 x3_1 x4_1 (decide ((rd l0 x4_1) > (rd l0 (ji8))))) else (none)) else (none)) = some r := by first | (rw [hji8] at H; exact H) | (simp only [hji8] at H ⊢; exact H)
        (try rw [hji8] at A5)
        have hji8w : (IntKind.i64.wrap (x4_1 - 1)) = ji8 := (i64_w _).trans hji8
        by_cases c9 : 0 ≤ (ji8)
        ·
         rw [if_pos c9] at H
         have c9b0 : decide (0 ≤ (ji8)) = true := decide_eq_true c9
         clear c9
         by_cases c10 : (ji8) < (l0.length : Int)
         ·
          rw [if_pos c10] at H
          have c10b0 : decide ((ji8) < (l0.length : Int)) = true := decide_eq_true c10
          clear c10
          have H' := Aside0.mk H
          clear H
          have p270 : 0 ≤ (x4_1 : Int) := of_decide_eq_true (by first | (with_reducible assumption) | assumption)
          have q270 : x4_1 < (l0.length : Int) := of_decide_eq_true (by first | (with_reducible assumption) | assumption)
          obtain ⟨ad270, e270, hx270_0⟩ := Kd.at_int HR0.out x4_1 p270 q270
          cases e270
          replace p270 := eq_true p270
          replace q270 := eq_true q270
          go_wp2_with (first | (go_at_call 66; (with_reducible refine (spec_l1In.calls (rd l0 x4_1) 1 9 true _ A5.out).mono ?_); rintro e w' ⟨rfl, ⟨nd, rfl⟩⟩; (try first | exact ⟨rfl, _, World.drewN_drewN _ _ _⟩ | exact ⟨rfl, _, Eq.trans (World.drewN_drewN _ _ _) (congrArg (World.drewN _) (Nat.add_assoc _ _ _))⟩); have p272 : 0 ≤ (x4_1 : Int) := of_decide_eq_true (by first | (with_reducible assumption) | assumption); have q272 : x4_1 < (l0.length : Int) := of_decide_eq_true (by first | (with_reducible assumption) | assumption); obtain ⟨ad272, e272, hx272_0⟩ := Kd.at_int HR0.out x4_1 p272 q272; obtain rfl : ad270 = ad272 := (by injection e272); replace p272 := eq_true p272; replace q272 := eq_true q272; have p273 : 0 ≤ ((ji8) : Int) := of_decide_eq_true (by first | (with_reducible assumption) | assumption); have q273 : (ji8) < (l0.length : Int) := of_decide_eq_true (by first | (with_reducible assumption) | assumption); obtain ⟨ad273, e273, hx273_0⟩ := Kd.at_int HR0.out (ji8) p273 q273; obtain rfl : ad270 = ad273 := (by injection e273); replace p273 := eq_true p273; replace q273 := eq_true q273))
          repeat (go_quiet (first | (go_at_call 66; (with_reducible refine (spec_l1In.calls (rd l0 x4_1) 1 9 true _ A5.out).mono ?_); rintro e w' ⟨rfl, ⟨nd, rfl⟩⟩; (try first | exact ⟨rfl, _, World.drewN_drewN _ _ _⟩ | exact ⟨rfl, _, Eq.trans (World.drewN_drewN _ _ _) (congrArg (World.drewN _) (Nat.add_assoc _ _ _))⟩); have p272 : 0 ≤ (x4_1 : Int) := of_decide_eq_true (by first | (with_reducible assumption) | assumption); have q272 : x4_1 < (l0.length : Int) := of_decide_eq_true (by first | (with_reducible assumption) | assumption); obtain ⟨ad272, e272, hx272_0⟩ := Kd.at_int HR0.out x4_1 p272 q272; obtain rfl : ad270 = ad272 := (by injection e272); replace p272 := eq_true p272; replace q272 := eq_true q272; have p273 : 0 ≤ ((ji8) : Int) := of_decide_eq_true (by first | (with_reducible assumption) | assumption); have q273 : (ji8) < (l0.length : Int) := of_decide_eq_true (by first | (with_reducible assumption) | assumption); obtain ⟨ad273, e273, hx273_0⟩ := Kd.at_int HR0.out (ji8) p273 q273; obtain rfl : ad270 = ad273 := (by injection e273); replace p273 := eq_true p273; replace q273 := eq_true q273)); try go_wp2_with (first | (go_at_call 66; (with_reducible refine (spec_l1In.calls (rd l0 x4_1) 1 9 true _ A5.out).mono ?_); rintro e w' ⟨rfl, ⟨nd, rfl⟩⟩; (try first | exact ⟨rfl, _, World.drewN_drewN _ _ _⟩ | exact ⟨rfl, _, Eq.trans (World.drewN_drewN _ _ _) (congrArg (World.drewN _) (Nat.add_assoc _ _ _))⟩); have p272 : 0 ≤ (x4_1 : Int) := of_decide_eq_true (by first | (with_reducible assumption) | assumption); have q272 : x4_1 < (l0.length : Int) := of_decide_eq_true (by first | (with_reducible assumption) | assumption); obtain ⟨ad272, e272, hx272_0⟩ := Kd.at_int HR0.out x4_1 p272 q272; obtain rfl : ad270 = ad272 := (by injection e272); replace p272 := eq_true p272; replace q272 := eq_true q272; have p273 : 0 ≤ ((ji8) : Int) := of_decide_eq_true (by first | (with_reducible assumption) | assumption); have q273 : (ji8) < (l0.length : Int) := of_decide_eq_true (by first | (with_reducible assumption) | assumption); obtain ⟨ad273, e273, hx273_0⟩ := Kd.at_int HR0.out (ji8) p273 q273; obtain rfl : ad270 = ad273 := (by injection e273); replace p273 := eq_true p273; replace q273 := eq_true q273)))
          go_meet
          case rel => exact ⟨_, (decide ((rd l0 x4_1) > (rd l0 (ji8)))), (by first | rfl | (simp; done) | (simp only [← hji8] <;> (first | rfl | simp)) | (simp [*]; done)), H', ⟨by have := HK1.out; first | omega | exact Nat.le_refl _⟩, by repeat (first | exact Drawn0.refl _ | apply Drawn0.step)⟩
         ·
          rw [if_neg c10] at H
          exact absurd H (by simp)
        ·
         rw [if_neg c9] at H
         exact absurd H (by simp)
       ·
        rw [if_neg c7] at H
        have c7b0 : decide (0 < x4_1) = false := decide_eq_false c7
        clear c7
        have H' := Aside0.mk H
        clear H
        have p270 : 0 ≤ (x4_1 : Int) := of_decide_eq_true (by first | (with_reducible assumption) | assumption)
        have q270 : x4_1 < (l0.length : Int) := of_decide_eq_true (by first | (with_reducible assumption) | assumption)
        obtain ⟨ad270, e270, hx270_0⟩ := Kd.at_int HR0.out x4_1 p270 q270
        cases e270
        replace p270 := eq_true p270
        replace q270 := eq_true q270
        go_wp2_with (first | (go_at_call 66; (with_reducible refine (spec_l1In.calls (rd l0 x4_1) 1 9 true _ A5.out).mono ?_); rintro e w' ⟨rfl, ⟨nd, rfl⟩⟩; (try first | exact ⟨rfl, _, World.drewN_drewN _ _ _⟩ | exact ⟨rfl, _, Eq.trans (World.drewN_drewN _ _ _) (congrArg (World.drewN _) (Nat.add_assoc _ _ _))⟩)))
        repeat (go_quiet (first | (go_at_call 66; (with_reducible refine (spec_l1In.calls (rd l0 x4_1) 1 9 true _ A5.out).mono ?_); rintro e w' ⟨rfl, ⟨nd, rfl⟩⟩; (try first | exact ⟨rfl, _, World.drewN_drewN _ _ _⟩ | exact ⟨rfl, _, Eq.trans (World.drewN_drewN _ _ _) (congrArg (World.drewN _) (Nat.add_assoc _ _ _))⟩))); try go_wp2_with (first | (go_at_call 66; (with_reducible refine (spec_l1In.calls (rd l0 x4_1) 1 9 true _ A5.out).mono ?_); rintro e w' ⟨rfl, ⟨nd, rfl⟩⟩; (try first | exact ⟨rfl, _, World.drewN_drewN _ _ _⟩ | exact ⟨rfl, _, Eq.trans (World.drewN_drewN _ _ _) (congrArg (World.drewN _) (Nat.add_assoc _ _ _))⟩))))
        go_meet
        case rel => exact ⟨_, (false), (by first | rfl | (simp; done) | (simp [*]; done)), H', ⟨by have := HK1.out; first | omega | exact Nat.le_refl _⟩, by repeat (first | exact Drawn0.refl _ | apply Drawn0.step)⟩
      ·
       replace c6 := Bool.eq_false_iff.mpr c6
       subst c6
       have H1 : (spec_IsPartition.j1 k1 l0 x3_1 x4_1 true) = some r := by rw [if_neg (show ¬ (false = true) by decide)] at H; exact H
       clear H
       have H := H1
       clear H1
       have H' := Aside0.mk H
       clear H
       have p270 : 0 ≤ (x4_1 : Int) := of_decide_eq_true (by first | (with_reducible assumption) | assumption)
       have q270 : x4_1 < (l0.length : Int) := of_decide_eq_true (by first | (with_reducible assumption) | assumption)
       obtain ⟨ad270, e270, hx270_0⟩ := Kd.at_int HR0.out x4_1 p270 q270
       cases e270
       replace p270 := eq_true p270
       replace q270 := eq_true q270
       go_wp2_with (first | (go_at_call 66; (with_reducible refine (spec_l1In.calls (rd l0 x4_1) 1 9 false _ A5.out).mono ?_); rintro e w' ⟨rfl, ⟨nd, rfl⟩⟩; (try first | exact ⟨rfl, _, World.drewN_drewN _ _ _⟩ | exact ⟨rfl, _, Eq.trans (World.drewN_drewN _ _ _) (congrArg (World.drewN _) (Nat.add_assoc _ _ _))⟩)))
       repeat (go_quiet (first | (go_at_call 66; (with_reducible refine (spec_l1In.calls (rd l0 x4_1) 1 9 false _ A5.out).mono ?_); rintro e w' ⟨rfl, ⟨nd, rfl⟩⟩; (try first | exact ⟨rfl, _, World.drewN_drewN _ _ _⟩ | exact ⟨rfl, _, Eq.trans (World.drewN_drewN _ _ _) (congrArg (World.drewN _) (Nat.add_assoc _ _ _))⟩))); try go_wp2_with (first | (go_at_call 66; (with_reducible refine (spec_l1In.calls (rd l0 x4_1) 1 9 false _ A5.out).mono ?_); rintro e w' ⟨rfl, ⟨nd, rfl⟩⟩; (try first | exact ⟨rfl, _, World.drewN_drewN _ _ _⟩ | exact ⟨rfl, _, Eq.trans (World.drewN_drewN _ _ _) (congrArg (World.drewN _) (Nat.add_assoc _ _ _))⟩))))
       go_meet
       case rel => exact ⟨_, (true), (by first | rfl | (simp; done) | (simp [*]; done)), H', ⟨by have := HK1.out; first | omega | exact Nat.le_refl _⟩, by repeat (first | exact Drawn0.refl _ | apply Drawn0.step)⟩
     ·
      rw [if_neg c4] at H
      exact absurd H (by simp)
    case rest =>
     clear HC3
     try clear c1
     try clear c2
     try clear c2b0
     try clear p2
     try clear q2
     try clear hx2
     try clear c4
     try clear c4b0
     try clear c6
     try clear p6
     try clear c7
     try clear c7b0
     try clear c9
     try clear c9b0
     try clear c10
     try clear c10b0
     try clear hx270_0
     try clear hx272_0
     try clear hx273_0
     try clear p270
     try clear p272
     try clear p273
     try clear q270
     try clear q272
     try clear q273
     obtain ⟨kq, x32_2, rfl, HA, HJ2, ⟨mc2, rfl⟩⟩ := hcut
     cases kq with
     | zero => exact absurd HA.out (by simp [spec_IsPartition.j1])
     | succ kj2 =>
      have H := HA.out
      clear HA
      simp only [spec_IsPartition.j1] at H
      by_cases c11 : x32_2 = true
      ·
       subst c11
       have H1 : (some false) = some r := by rw [if_pos rfl] at H; exact H
       clear H
       have H := H1
       clear H1
       obtain rfl := Option.some.inj H
       go_wp2
       repeat (go_quiet (fail); try go_wp2)
       go_ret
       exact ⟨by first | rfl | (simp; done) | (simp [*]; done), by repeat (first | exact Drawn0.refl _ | apply Drawn0.step)⟩
      ·
       replace c11 := Bool.eq_false_iff.mpr c11
       subst c11
       have H1 : (if 0 ≤ x4_1 then (if x4_1 < (l0.length : Int) then (if (wrap64 (x3_1 + (rd l0 x4_1))) > 9 then (some false) else (spec_IsPartition.l0 kj2 l0 (wrap64 (x3_1 + (rd l0 x4_1))) (wrap64 (x4_1 + 1)))) else (none)) else (none)) = some r := by rw [if_neg (show ¬ (false = true) by decide)] at H; exact H
       clear H
       have H := H1
       clear H1
       by_cases c12 : 0 ≤ x4_1
       ·
        rw [if_pos c12] at H
        have c12b0 : decide (0 ≤ x4_1) = true := decide_eq_true c12
        clear c12
        by_cases c13 : x4_1 < (l0.length : Int)
        ·
         rw [if_pos c13] at H
         have c13b0 : decide (x4_1 < (l0.length : Int)) = true := decide_eq_true c13
         clear c13
         by_cases c14 : (wrap64 (x3_1 + (rd l0 x4_1))) > 9
         ·
          rw [if_pos c14] at H
          have c14b0 : decide (9 < (wrap64 (x3_1 + (rd l0 x4_1)))) = true := decide_eq_true c14
          clear c14
          obtain rfl := Option.some.inj H
          have p274 : 0 ≤ (x4_1 : Int) := of_decide_eq_true (by first | (with_reducible assumption) | assumption)
          have q274 : x4_1 < (l0.length : Int) := of_decide_eq_true (by first | (with_reducible assumption) | assumption)
          obtain ⟨ad274, e274, hx274_0⟩ := Kd.at_int HR0.out x4_1 p274 q274
          cases e274
          replace p274 := eq_true p274
          replace q274 := eq_true q274
          go_wp2
          repeat (go_quiet (fail); try go_wp2)
          go_ret
          exact ⟨by first | rfl | (simp; done) | (simp [*]; done), by repeat (first | exact Drawn0.refl _ | apply Drawn0.step)⟩
         ·
          rw [if_neg c14] at H
          have c14b0 : decide (9 < (wrap64 (x3_1 + (rd l0 x4_1)))) = false := decide_eq_false c14
          clear c14
          have H' := Aside0.mk H
          clear H
          have p274 : 0 ≤ (x4_1 : Int) := of_decide_eq_true (by first | (with_reducible assumption) | assumption)
          have q274 : x4_1 < (l0.length : Int) := of_decide_eq_true (by first | (with_reducible assumption) | assumption)
          obtain ⟨ad274, e274, hx274_0⟩ := Kd.at_int HR0.out x4_1 p274 q274
          cases e274
          replace p274 := eq_true p274
          replace q274 := eq_true q274
          go_wp2
          repeat (go_quiet (fail); try go_wp2)
          go_roundg kj2
          case measure => have := HK1.out; have := HJ2.out; omega
          case rel => exact ⟨(wrap64 (x3_1 + (rd l0 x4_1))), (wrap64 (x4_1 + 1)), (by first | rfl | (simp; done) | (simp [*]; done)), (by first | rfl | (simp; done) | (simp [*]; done)), H', ⟨by have := HK1.out; have := HJ2.out; omega⟩, by repeat (first | exact Drawn0.refl _ | apply Drawn0.step)⟩
        ·
         rw [if_neg c13] at H
         exact absurd H (by simp)
       ·
        rw [if_neg c12] at H
        exact absurd H (by simp)
   ·
    rw [if_neg c2] at H
    have c2b0 : decide (x4_1 < (l0.length : Int)) = false := decide_eq_false c2
    clear c2
    obtain rfl := Option.some.inj H
    go_wp2
    repeat (go_quiet (fail); try go_wp2)
    go_ret
    exact ⟨by first | rfl | (simp; done) | (simp [*]; done), by repeat (first | exact Drawn0.refl _ | apply Drawn0.step)⟩
def spec_l21Fine.f (k : Nat) (l0 : List Int) : Option (Bool) := (spec_IsPartition.f k l0).bind fun t275 => (if t275 = true then ((spec_l2Size.f k l0).bind fun t276 => (some (decide (t276 ≤ 6)))) else (some false))
set_option maxHeartbeats 8000000 in
set_option maxRecDepth 100000 in
theorem spec_l21Fine.calls (k : Nat) (A0 : Option Addr) (c0 : Nat) (l0 : List Int) (r : Bool) (w : World) (hr0 : Kd.C (Kd.int .i64) w A0 l0.length l0) (hc0 : l0.length ≤ c0) (h : spec_l21Fine.f k l0 = some r) :
  Calls Tryz.prog 70 #[.slice A0 l0.length c0] w fun e w' => e = .returned (.bool r) ∧ Drawn0 w w' := by
 have HR0 := Aside0.mk hr0
 have HC0 := Aside0.mk hc0
 clear hr0 hc0
 have H : ((spec_IsPartition.f k l0).bind fun t275 => (if t275 = true then ((spec_l2Size.f k l0).bind fun t276 => (some (decide (t276 ≤ 6)))) else (some false))) = some r := h
 clear h
 replace H := Option.bind_eq_some_iff.mp H
 obtain ⟨t275, A20, H⟩ := H
 replace H : (if t275 = true then ((spec_l2Size.f k l0).bind fun t276 => (some (decide (t276 ≤ 6)))) else (some false)) = some r := H
 have A2 := Aside0.mk A20
 clear A20
 by_cases c3 : t275 = true
 ·
  subst c3
  have H1 : ((spec_l2Size.f k l0).bind fun t276 => (some (decide (t276 ≤ 6)))) = some r := by rw [if_pos rfl] at H; exact H
  clear H
  have H := H1
  clear H1
  replace H := Option.bind_eq_some_iff.mp H
  obtain ⟨t276, A40, H⟩ := H
  replace H : (some (decide (t276 ≤ 6))) = some r := H
  have A4 := Aside0.mk A40
  clear A40
  obtain rfl := Option.some.inj H
  go_enter Tryz.func70, Tryz.ntmps70
  go_wp2_with (first | ((with_reducible refine gate_callee (f := 22) rfl ?_); refine goesL_ (some 4) rfl rfl Tryz.func22 (by kernel_rfl) rfl #[.slice A0 l0.length c0] rfl (by (try simp only [List.map_toArray, List.map_cons, List.map_nil]); first | done | rfl | (simp only [List.length_drop, List.length_take]; rfl)) ?_; (with_reducible refine (spec_IsPartition.calls k _ _ l0 true _ ?side1 ?side2 A2.out).mono ?_); (case side1 => repeat (first | exact HR0.out | (with_reducible refine Kd.C_alloc ?_ _) | (with_reducible refine Kd.C_drewN ?_ _) | (with_reducible refine Kd.C_drew ?_))); (case side2 => exact HC0.out); rintro e w' ⟨rfl, ⟨nd, rfl⟩⟩; refine ⟨_, rfl, ?_⟩) | (go_at_call 55; (with_reducible refine (spec_l2Size.calls k _ _ l0 t276 _ ?side1 ?side2 A4.out).mono ?_); (case side1 => repeat (first | exact HR0.out | (with_reducible refine Kd.C_alloc ?_ _) | (with_reducible refine Kd.C_drewN ?_ _) | (with_reducible refine Kd.C_drew ?_))); (case side2 => exact HC0.out); rintro e w' ⟨rfl, ⟨nd, rfl⟩⟩))
  go_ret
  exact ⟨by first | rfl | (simp; done) | (simp [*]; done), by repeat (first | exact Drawn0.refl _ | apply Drawn0.step)⟩
 ·
  replace c3 := Bool.eq_false_iff.mpr c3
  subst c3
  have H1 : (some false) = some r := by rw [if_neg (show ¬ (false = true) by decide)] at H; exact H
  clear H
  have H := H1
  clear H1
  obtain rfl := Option.some.inj H
  go_enter Tryz.func70, Tryz.ntmps70
  go_wp2_with (first | ((with_reducible refine gate_callee (f := 22) rfl ?_); refine goesL_ (some 4) rfl rfl Tryz.func22 (by kernel_rfl) rfl #[.slice A0 l0.length c0] rfl (by (try simp only [List.map_toArray, List.map_cons, List.map_nil]); first | done | rfl | (simp only [List.length_drop, List.length_take]; rfl)) ?_; (with_reducible refine (spec_IsPartition.calls k _ _ l0 false _ ?side1 ?side2 A2.out).mono ?_); (case side1 => repeat (first | exact HR0.out | (with_reducible refine Kd.C_alloc ?_ _) | (with_reducible refine Kd.C_drewN ?_ _) | (with_reducible refine Kd.C_drew ?_))); (case side2 => exact HC0.out); rintro e w' ⟨rfl, ⟨nd, rfl⟩⟩; refine ⟨_, rfl, ?_⟩))
  go_ret
  exact ⟨by first | rfl | (simp; done) | (simp [*]; done), by repeat (first | exact Drawn0.refl _ | apply Drawn0.step)⟩
def spec_l1Bit.f (a0 : Bool) : Option (Int) := if a0 = true then (some 1) else (some 0)
set_option maxHeartbeats 8000000 in
set_option maxRecDepth 100000 in
theorem spec_l1Bit.calls (a0 : Bool) (r : Int) (w : World) (h : spec_l1Bit.f a0 = some r) :
    Calls Tryz.prog 56 #[.bool a0] w fun e w' => e = .returned (.int .i64 r) ∧ Drawn0 w w' := by
  have H : (if a0 = true then (some 1) else (some 0)) = some r := h
  clear h
  by_cases c2 : a0 = true
  · subst c2
    have H1 : (some 1) = some r := by rw [if_pos rfl] at H; exact H
    clear H
    have H := H1
    clear H1
    obtain rfl := Option.some.inj H
    go_enter Tryz.func56, Tryz.ntmps56
    go_wp2
    go_ret
    exact ⟨by first | rfl | (simp; done) | (simp [*]; done), by repeat (first | exact Drawn0.refl _ | apply Drawn0.step)⟩
  · replace c2 := Bool.eq_false_iff.mpr c2
    subst c2
    have H1 : (some 0) = some r := by rw [if_neg (show ¬ (false = true) by decide)] at H; exact H
    clear H
    have H := H1
    clear H1
    obtain rfl := Option.some.inj H
    go_enter Tryz.func56, Tryz.ntmps56
    go_wp2
    go_ret
    exact ⟨by first | rfl | (simp; done) | (simp [*]; done), by repeat (first | exact Drawn0.refl _ | apply Drawn0.step)⟩
def spec_l2At.f (l0 : List Int) (a1 : Int) : Option (Int) := if a1 < 0 then (some 0) else (if a1 ≥ (l0.length : Int) then (some 0) else (if 0 ≤ a1 then (if a1 < (l0.length : Int) then (some (rd l0 a1)) else (none)) else (none)))
set_option maxHeartbeats 8000000 in
set_option maxRecDepth 100000 in
theorem spec_l2At.calls (A0 : Option Addr) (c0 : Nat) (l0 : List Int) (a1 : Int) (r : Int) (w : World) (hr0 : Kd.C (Kd.int .i64) w A0 l0.length l0) (hc0 : l0.length ≤ c0) (h : spec_l2At.f l0 a1 = some r) :
    Calls Tryz.prog 141 #[.slice A0 l0.length c0, .int .i64 a1] w fun e w' => e = .returned (.int .i64 r) ∧ Drawn0 w w' := by
  have HR0 := Aside0.mk hr0
  have HC0 := Aside0.mk hc0
  clear hr0 hc0
  have H : (if a1 < 0 then (some 0) else (if a1 ≥ (l0.length : Int) then (some 0) else (if 0 ≤ a1 then (if a1 < (l0.length : Int) then (some (rd l0 a1)) else (none)) else (none)))) = some r := h
  clear h
  by_cases c3 : a1 < 0
  · rw [if_pos c3] at H
    have c3b0 : decide (a1 < 0) = true := decide_eq_true c3
    clear c3
    obtain rfl := Option.some.inj H
    go_enter Tryz.func141, Tryz.ntmps141
    go_wp2
    go_ret
    exact ⟨by first | rfl | (simp; done) | (simp [*]; done), by repeat (first | exact Drawn0.refl _ | apply Drawn0.step)⟩
  · rw [if_neg c3] at H
    have c3b0 : decide (a1 < 0) = false := decide_eq_false c3
    clear c3
    by_cases c4 : a1 ≥ (l0.length : Int)
    · rw [if_pos c4] at H
      have c4b0 : decide ((l0.length : Int) ≤ a1) = true := decide_eq_true c4
      clear c4
      obtain rfl := Option.some.inj H
      go_enter Tryz.func141, Tryz.ntmps141
      go_wp2
      go_ret
      exact ⟨by first | rfl | (simp; done) | (simp [*]; done), by repeat (first | exact Drawn0.refl _ | apply Drawn0.step)⟩
    · rw [if_neg c4] at H
      have c4b0 : decide ((l0.length : Int) ≤ a1) = false := decide_eq_false c4
      clear c4
      by_cases c5 : 0 ≤ a1
      · rw [if_pos c5] at H
        have c5b0 : decide (0 ≤ a1) = true := decide_eq_true c5
        clear c5
        by_cases c6 : a1 < (l0.length : Int)
        · rw [if_pos c6] at H
          have c6b0 : decide (a1 < (l0.length : Int)) = true := decide_eq_true c6
          clear c6
          obtain rfl := Option.some.inj H
          have p277 : 0 ≤ (a1 : Int) := of_decide_eq_true (by first | (with_reducible assumption) | assumption)
          have q277 : a1 < (l0.length : Int) := of_decide_eq_true (by first | (with_reducible assumption) | assumption)
          obtain ⟨ad277, e277, hx277_0⟩ := Kd.at_int HR0.out a1 p277 q277
          cases e277
          replace p277 := eq_true p277
          replace q277 := eq_true q277
          go_enter Tryz.func141, Tryz.ntmps141
          go_wp2
          go_ret
          exact ⟨by first | rfl | (simp; done) | (simp [*]; done), by repeat (first | exact Drawn0.refl _ | apply Drawn0.step)⟩
        · rw [if_neg c6] at H
          exact absurd H (by simp)
      · rw [if_neg c5] at H
        exact absurd H (by simp)
mutual
def spec_l7Strips.j0 : Nat → List Int → List Int → Int → Int → List (List Int) → Int → Option ((List (List Int)))
  | 0, _, _, _, _, _, _ => none
  | k + 1, x0, x1, x2, x3, x9, x10 => (spec_l2At.f x0 x3).bind fun t290 => (spec_l7Strips.l0 k x0 x1 x2 x3 x9 x10 t290)
def spec_l7Strips.l0 : Nat → List Int → List Int → Int → Int → List (List Int) → Int → Int → Option ((List (List Int)))
  | 0, _, _, _, _, _, _, _ => none
  | k + 1, x0, x1, x2, x3, x9, x10, x11 => if x11 ≤ x10 then ((spec_l2At.f x0 x3).bind fun t291 => (spec_l7Strips.j2 k x0 x1 x2 x3 x9 x10 x11 (decide ((wrap64 (x11 - t291)) ≤ x2)))) else (spec_l7Strips.j2 k x0 x1 x2 x3 x9 x10 x11 false)
def spec_l7Strips.j2 : Nat → List Int → List Int → Int → Int → List (List Int) → Int → Int → Bool → Option ((List (List Int)))
  | 0, _, _, _, _, _, _, _, _ => none
  | k + 1, x0, x1, x2, x3, x9, x10, x11, x52 => if x52 = true then ((spec_l2At.f x0 x3).bind fun t292 => ((spec_l7Strips.f k x0 x1 (wrap64 ((wrap64 (x2 - x11)) + t292)) (wrap64 (x3 + 1))).bind fun t293 => (spec_l7Strips.l1 k x0 x1 x2 x3 x9 x10 x11 t293 0))) else (some x9)
def spec_l7Strips.l1 : Nat → List Int → List Int → Int → Int → List (List Int) → Int → Int → List (List Int) → Int → Option ((List (List Int)))
  | 0, _, _, _, _, _, _, _, _, _ => none
  | k + 1, x0, x1, x2, x3, x9, x10, x11, x12, x13 => if x13 < (x12.length : Int) then ((some (([x11] : List Int) : List Int)).bind fun y296 => (if 0 ≤ x13 then (if y296.length + (rd_L3 x12 x13).length < 17592186044416 then (if x9.length < 5864062014805 then (spec_l7Strips.l1 k x0 x1 x2 x3 (x9 ++ [(y296 ++ (rd_L3 x12 x13))]) x10 x11 x12 (wrap64 (x13 + 1))) else (none)) else (none)) else (none))) else (spec_l7Strips.l0 k x0 x1 x2 x3 x9 x10 (wrap64 (x11 + 1)))
def spec_l7Strips.f : Nat → List Int → List Int → Int → Int → Option ((List (List Int)))
  | 0, _, _, _, _ => none
  | k + 1, l0, l1, a2, a3 => (some (([] : List (List Int)) : List (List Int))).bind fun y278 => (if a3 = (l1.length : Int) then (if a2 = 0 then (if y278.length < 5864062014805 then (some (y278 ++ [(([] : List Int))])) else (none)) else (some y278)) else (if 0 ≤ a3 then (if a3 < (l1.length : Int) then (if a3 > 0 then ((spec_l2At.f l0 (wrap64 (a3 - 1))).bind fun t288 => ((spec_l1Min.f (rd l1 a3) t288).bind fun t289 => (spec_l7Strips.j0 k l0 l1 a2 a3 y278 t289))) else (spec_l7Strips.j0 k l0 l1 a2 a3 y278 (rd l1 a3))) else (none)) else (none)))
end
set_option maxHeartbeats 8000000 in
set_option maxRecDepth 100000 in
theorem spec_l7Strips.calls (k : Nat) : ∀ (A0 : Option Addr) (c0 : Nat) (l0 : List Int) (A1 : Option Addr) (c1 : Nat) (l1 : List Int) (a2 : Int) (a3 : Int) (r : List (List Int)) (w : World) (hr0 : Kd.C (Kd.int .i64) w A0 l0.length l0) (hc0 : l0.length ≤ c0) (hr1 : Kd.C (Kd.int .i64) w A1 l1.length l1) (hc1 : l1.length ≤ c1) (h : spec_l7Strips.f k l0 l1 a2 a3 = some r),
  Calls Tryz.prog 120 #[.slice A0 l0.length c0, .slice A1 l1.length c1, .int .i64 a2, .int .i64 a3] w fun e w' => ∃ v0_ : Value, e = .returned (v0_) ∧ Kd.S (Kd.slice 3 (Kd.int .i64)) 24 w' w.heap.size (fun _ => True) v0_ r ∧ Below w.heap.size w w' := by
 induction k using Nat.strongRecOn with
 | _ k ih =>
 intro A0 c0 l0 A1 c1 l1 a2 a3 r w hr0 hc0 hr1 hc1 h
 cases k with
 | zero => exact absurd h (by simp [spec_l7Strips.f])
 | succ k =>
 simp only [spec_l7Strips.f] at h
 have HR0 := Aside0.mk hr0
 have HC0 := Aside0.mk hc0
 clear hr0 hc0
 have HR1 := Aside0.mk hr1
 have HC1 := Aside0.mk hc1
 clear hr1 hc1
 have HB := Aside0.mk (Below.refl w.heap.size w)
 have H : ((some (([] : List (List Int)) : List (List Int))).bind fun y278 => (if a3 = (l1.length : Int) then (if a2 = 0 then (if y278.length < 5864062014805 then (some (y278 ++ [(([] : List Int))])) else (none)) else (some y278)) else (if 0 ≤ a3 then (if a3 < (l1.length : Int) then (if a3 > 0 then ((spec_l2At.f l0 (wrap64 (a3 - 1))).bind fun t288 => ((spec_l1Min.f (rd l1 a3) t288).bind fun t289 => (spec_l7Strips.j0 k l0 l1 a2 a3 y278 t289))) else (spec_l7Strips.j0 k l0 l1 a2 a3 y278 (rd l1 a3))) else (none)) else (none)))) = some r := h
 clear h
 obtain ⟨y278, hy278⟩ : ∃ y_ : List (List Int), y_ = (([] : List (List Int))) := ⟨_, rfl⟩
 replace H : (if a3 = (l1.length : Int) then (if a2 = 0 then (if y278.length < 5864062014805 then (some (y278 ++ [(([] : List Int))])) else (none)) else (some y278)) else (if 0 ≤ a3 then (if a3 < (l1.length : Int) then (if a3 > 0 then ((spec_l2At.f l0 (wrap64 (a3 - 1))).bind fun t288 => ((spec_l1Min.f (rd l1 a3) t288).bind fun t289 => (spec_l7Strips.j0 k l0 l1 a2 a3 y278 t289))) else (spec_l7Strips.j0 k l0 l1 a2 a3 y278 (rd l1 a3))) else (none)) else (none))) = some r := by first | (rw [hy278]; with_reducible exact H) | (have H2_ := (Option.bind_some _ _).symm.trans H; rw [hy278]; with_reducible exact H2_) | (have H2_ := (Option.bind_some _ _).symm.trans H; with_reducible exact H2_) | with_reducible exact H | (rw [hy278]; exact H) | exact H
 have Ny278 := Aside0.mk hy278
 clear hy278
 by_cases c5 : a3 = (l1.length : Int)
 ·
  rw [if_pos c5] at H
  have c5b0 : (a3 == (l1.length : Int)) = true := beq_iff_eq.mpr c5
  have c5b1 : (a3 != (l1.length : Int)) = false := bne_eq_false_iff_eq.mpr c5
  clear c5
  by_cases c6 : a2 = 0
  ·
   rw [if_pos c6] at H
   have c6b0 : (a2 == 0) = true := beq_iff_eq.mpr c6
   have c6b1 : (a2 != 0) = false := bne_eq_false_iff_eq.mpr c6
   clear c6
   obtain ⟨y281, hy281⟩ : ∃ y_ : List Int, y_ = (([] : List Int)) := ⟨_, rfl⟩
   replace H : (if y278.length < 5864062014805 then (some (y278 ++ [y281])) else (none)) = some r := by first | (rw [hy281]; with_reducible exact H) | (have H2_ := (Option.bind_some _ _).symm.trans H; rw [hy281]; with_reducible exact H2_) | (have H2_ := (Option.bind_some _ _).symm.trans H; with_reducible exact H2_) | with_reducible exact H | (rw [hy281]; exact H) | exact H
   have Ny281 := Aside0.mk hy281
   clear hy281
   by_cases c7 : y278.length < 5864062014805
   ·
    rw [if_pos c7] at H
    have LMc7 := Aside0.mk c7
    clear c7
    obtain ⟨y284, hy284⟩ : ∃ y_ : List (List Int), y_ = (y278 ++ [y281]) := ⟨_, rfl⟩
    replace H : (some y284) = some r := by first | (rw [hy284]; with_reducible exact H) | (have H2_ := (Option.bind_some _ _).symm.trans H; rw [hy284]; with_reducible exact H2_) | (have H2_ := (Option.bind_some _ _).symm.trans H; with_reducible exact H2_) | with_reducible exact H | (rw [hy284]; exact H) | exact H
    have Ny284 := Aside0.mk hy284
    clear hy284
    obtain rfl := Option.some.inj H
    go_enter Tryz.func120, Tryz.ntmps120
    go_wp2_with (first | ((with_reducible refine gate_dst (N := 14) rfl ?_); refine Kd.S_lit (Kd.slice 3 (Kd.int .i64)) _ 24 ?hg (N := 14) ?hd (xs := ([] : List (List Int))) (inner := []) (ok := fun _ => True) (okp := fun _ => True) ?hr ?hp (fun _ hk => hk) trivial (Below.refl _ _) (Nat.le_refl _) (by simp) ?_; (case hd => rfl); (case hg => rfl); (case hr => first | (go_simp; done) | (go_simp; rfl)); (case hp => exact (Reps.none _ _)); intro v279 w8 ho9 hb hg_ hnew_; clear hg_ hnew_; (first | rw [← Ny278.out] at ho9 | (simp only [Int.reduceToNat] at ho9; rw [← Ny278.out] at ho9)); have n0_ := Aside0.mk (Kd.S_lower ho9 (below_size (by repeat (first | (with_reducible first | exact HB.out | apply below_alloc | apply pw_below_drewN | apply below_drew1) | exact HB.out)))); have n1_ := Aside0.mk (below_step (by repeat (first | (with_reducible first | exact HB.out | apply below_alloc | apply pw_below_drewN | apply below_drew1) | exact HB.out)) hb); clear HB; have HO280 := n0_; have HB := n1_; clear n0_ n1_; clear hb ho9) | ((with_reducible refine gate_dst (N := 22) rfl ?_); refine Kd.R_lit (Kd.int .i64) _ 3 ?hg (N := 22) ?hd (xs := ([] : List Int)) (inner := []) (ok := fun _ => True) (okp := fun _ => True) ?hr ?hp (fun _ hk => hk) trivial (Below.refl _ _) (Nat.le_refl _) (by simp) ?_; (case hd => rfl); (case hg => rfl); (case hr => first | (go_simp; done) | (go_simp; rfl)); (case hp => exact (Reps.none _ _)); intro v282 w10 ho11 hb hg_ hnew_; clear hg_ hnew_; (first | rw [← Ny281.out] at ho11 | (simp only [Int.reduceToNat] at ho11; rw [← Ny281.out] at ho11)); have n0_ := Aside0.mk (Kd.S_elder' (by (with_reducible repeat (first | apply Kd.S_alloc | apply Kd.S_drewN | apply Kd.S_drew)); exact HO280.out) (Kd.R_base ho11) hb); have n1_ := Aside0.mk (Kd.R_lower ho11 (below_size (by repeat (first | (with_reducible first | exact HB.out | apply below_alloc | apply pw_below_drewN | apply below_drew1) | exact HB.out)))); have n2_ := Aside0.mk (below_step (by repeat (first | (with_reducible first | exact HB.out | apply below_alloc | apply pw_below_drewN | apply below_drew1) | exact HB.out)) hb); clear HO280; clear HB; have HO280 := n0_; have HO283 := n1_; have HB := n2_; clear n0_ n1_ n2_; clear hb ho11; obtain ⟨Ao13, co13, eo13⟩ := Kd.R_slice HO283.out; subst eo13) | ((with_reducible refine gate_builtin (b := .append) (xs := #[.tmp 21, .tmp 23]) rfl ?_); at_builtin; refine Kd.S_append (Kd.slice 3 (Kd.int .i64)) (w0 := w) w.heap.size rfl (.tmp 21) (.tmp 23) 39 24 (.slice none 0 0) 24 rfl Tryz.underlying39 info24 rfl (by decide) (by omega) v279 y278 y281 [.slice Ao13 y281.length co13] (fun _ => True) (fun k_ => some k_ = (.slice Ao13 y281.length co13 : Value).ownBlock) rfl rfl ?aP (fun k_ hk_ => ((Kd.R_mono (ok' := fun k_ => ((fun _ => True)) k_ ∧ some k_ ≠ (v279 : Value).ownBlock) (Kd.R_apart' (HO283.out) (Kd.S_typed HO280.out) (by decide)) (fun k_ hk => ⟨trivial, hk.2⟩))).1 k_ hk_.symm) ?aF ?aO ?aB ?aS ?aL ?_; (case aP => exact Kd.M_row (Kd.R_mono (Kd.R_tight rfl (Kd.R_mono (ok' := fun k_ => ((fun _ => True)) k_ ∧ some k_ ≠ (v279 : Value).ownBlock) (Kd.R_apart' (HO283.out) (Kd.S_typed HO280.out) (by decide)) (fun k_ hk => ⟨trivial, hk.2⟩))) (fun _ h_ => h_))); (case aB => exact (by repeat (first | (with_reducible first | exact HB.out | apply below_alloc | apply pw_below_drewN | apply below_drew1) | exact HB.out))); (case aF => exact (fun _ _ => trivial)); (case aO => exact (by (with_reducible repeat (first | apply Kd.S_alloc | apply Kd.S_drewN | apply Kd.S_drew)); exact Kd.S_mono HO280.out (fun k_ hk => ⟨trivial, fun e_ => hk.2 e_⟩))); (case aS => exact (below_size (by repeat (first | (with_reducible first | exact HB.out | apply below_alloc | apply pw_below_drewN | apply below_drew1) | exact HB.out)))); (case aL => have := LMc7.out; omega); intro v285 w12 ho hb hg hat; rw [← Ny284.out] at ho; have n0_ := Aside0.mk (hb); have n1_ := Aside0.mk (ho); clear HB; clear HO280; clear HO283; have HB := n0_; have HO286 := n1_; clear n0_ n1_; clear ho hb hg hat))
    go_ret
    exact ⟨_, by first | rfl | (simp [errW_none, errW_some] <;> rfl) | (simp [*, errW_none, errW_some] <;> rfl), by (with_reducible repeat (first | apply Kd.S_alloc | apply Kd.S_drewN | apply Kd.S_drew)); exact HO286.out, by repeat (first | (with_reducible first | exact HB.out | apply below_alloc | apply pw_below_drewN | apply below_drew1) | exact HB.out)⟩
   ·
    rw [if_neg c7] at H
    exact absurd H (by simp)
  ·
   rw [if_neg c6] at H
   have c6b0 : (a2 == 0) = false := beq_eq_false_iff_ne.mpr c6
   have c6b1 : (a2 != 0) = true := bne_iff_ne.mpr c6
   obtain rfl := Option.some.inj H
   go_enter Tryz.func120, Tryz.ntmps120
   go_wp2_with (first | ((with_reducible refine gate_dst (N := 14) rfl ?_); refine Kd.S_lit (Kd.slice 3 (Kd.int .i64)) _ 24 ?hg (N := 14) ?hd (xs := ([] : List (List Int))) (inner := []) (ok := fun _ => True) (okp := fun _ => True) ?hr ?hp (fun _ hk => hk) trivial (Below.refl _ _) (Nat.le_refl _) (by simp) ?_; (case hd => rfl); (case hg => rfl); (case hr => first | (go_simp; done) | (go_simp; rfl)); (case hp => exact (Reps.none _ _)); intro v279 w14 ho15 hb hg_ hnew_; clear hg_ hnew_; (first | rw [← Ny278.out] at ho15 | (simp only [Int.reduceToNat] at ho15; rw [← Ny278.out] at ho15)); have n0_ := Aside0.mk (Kd.S_lower ho15 (below_size (by repeat (first | (with_reducible first | exact HB.out | apply below_alloc | apply pw_below_drewN | apply below_drew1) | exact HB.out)))); have n1_ := Aside0.mk (below_step (by repeat (first | (with_reducible first | exact HB.out | apply below_alloc | apply pw_below_drewN | apply below_drew1) | exact HB.out)) hb); clear HB; have HO280 := n0_; have HB := n1_; clear n0_ n1_; clear hb ho15))
   go_ret
   exact ⟨_, by first | rfl | (simp [errW_none, errW_some] <;> rfl) | (simp [*, errW_none, errW_some] <;> rfl), by (with_reducible repeat (first | apply Kd.S_alloc | apply Kd.S_drewN | apply Kd.S_drew)); exact HO280.out, by repeat (first | (with_reducible first | exact HB.out | apply below_alloc | apply pw_below_drewN | apply below_drew1) | exact HB.out)⟩
 ·
  rw [if_neg c5] at H
  have c5b0 : (a3 == (l1.length : Int)) = false := beq_eq_false_iff_ne.mpr c5
  have c5b1 : (a3 != (l1.length : Int)) = true := bne_iff_ne.mpr c5
  by_cases c16 : 0 ≤ a3
  ·
   rw [if_pos c16] at H
   have c16b0 : decide (0 ≤ a3) = true := decide_eq_true c16
   clear c16
   by_cases c17 : a3 < (l1.length : Int)
   ·
    rw [if_pos c17] at H
    have c17b0 : decide (a3 < (l1.length : Int)) = true := decide_eq_true c17
    clear c17
    have HC18 := Aside0.mk H
    clear H
    go_enter Tryz.func120, Tryz.ntmps120
    go_upto_if 31 with (first | ((with_reducible refine gate_dst (N := 14) rfl ?_); refine Kd.S_lit (Kd.slice 3 (Kd.int .i64)) _ 24 ?hg (N := 14) ?hd (xs := ([] : List (List Int))) (inner := []) (ok := fun _ => True) (okp := fun _ => True) ?hr ?hp (fun _ hk => hk) trivial (Below.refl _ _) (Nat.le_refl _) (by simp) ?_; (case hd => rfl); (case hg => rfl); (case hr => first | (go_simp; done) | (go_simp; rfl)); (case hp => exact (Reps.none _ _)); intro v279 w19 ho20 hb hg_ hnew_; clear hg_ hnew_; (first | rw [← Ny278.out] at ho20 | (simp only [Int.reduceToNat] at ho20; rw [← Ny278.out] at ho20)); have n0_ := Aside0.mk (Kd.S_lower ho20 (below_size (by repeat (first | (with_reducible first | exact HB.out | apply below_alloc | apply pw_below_drewN | apply below_drew1) | exact HB.out)))); have n1_ := Aside0.mk (below_step (by repeat (first | (with_reducible first | exact HB.out | apply below_alloc | apply pw_below_drewN | apply below_drew1) | exact HB.out)) hb); clear HB; have HO280 := n0_; have HB := n1_; clear n0_ n1_; clear hb ho20; have p287 : 0 ≤ (a3 : Int) := of_decide_eq_true (by first | (with_reducible assumption) | assumption); have q287 : a3 < (l1.length : Int) := of_decide_eq_true (by first | (with_reducible assumption) | assumption); obtain ⟨ad287, e287, hx287_0⟩ := Kd.at_int HR1.out a3 p287 q287; cases e287; replace hx287_0 := (HB.out.cell (World.block_lt_of_cell? w _ hx287_0)).trans hx287_0; replace p287 := eq_true p287; replace q287 := eq_true q287))
    (try simp only [Act.put, List.setIfInBounds_toArray, List.set_cons_zero, List.set_cons_succ])
    go_cut [10] (fun v10 wc => ∃ (kq : Nat) (x10_17 : Int), v10 = .int .i64 x10_17 ∧ Aside0 (spec_l7Strips.j0 kq l0 l1 a2 a3 y278 x10_17 = some r) ∧ Aside0 (kq ≤ k) ∧ Aside0 (Kd.S (Kd.slice 3 (Kd.int .i64)) 24 wc w.heap.size (fun _ => True) v279 y278) ∧ Aside0 (Below w.heap.size w wc))
    case first =>
     have H := HC18.out
     clear HC18
     by_cases c21 : a3 > 0
     ·
      rw [if_pos c21] at H
      have c21b0 : decide (0 < a3) = true := decide_eq_true c21
      clear c21
      (first | rw [c21b0] | (simp only [i64_w, i32_w]; rw [c21b0]) | skip)
      replace H := Option.bind_eq_some_iff.mp H
      obtain ⟨t288, A220, H⟩ := H
      replace H : ((spec_l1Min.f (rd l1 a3) t288).bind fun t289 => (spec_l7Strips.j0 k l0 l1 a2 a3 y278 t289)) = some r := H
      have A22 := Aside0.mk A220
      clear A220
      replace H := Option.bind_eq_some_iff.mp H
      obtain ⟨t289, A230, H⟩ := H
      replace H : (spec_l7Strips.j0 k l0 l1 a2 a3 y278 t289) = some r := H
      have A23 := Aside0.mk A230
      clear A230
      have H' := Aside0.mk H
      clear H
      go_wp2_with (first | ((with_reducible refine gate_callee (f := 141) rfl ?_); refine goesL_ (some 36) rfl rfl Tryz.func141 (by kernel_rfl) rfl #[.slice A0 l0.length c0, .int .i64 (wrap64 (a3 - 1))] rfl (by (try simp only [List.map_toArray, List.map_cons, List.map_nil]); first | done | rfl | (simp only [List.length_drop, List.length_take]; rfl)) ?_; (with_reducible refine (spec_l2At.calls _ _ l0 (wrap64 (a3 - 1)) t288 _ ?side1 ?side2 A22.out).mono ?_); (case side1 => repeat (first | exact (Kd.C_below HR0.out HB.out) | (with_reducible refine Kd.C_alloc ?_ _) | (with_reducible refine Kd.C_drewN ?_ _) | (with_reducible refine Kd.C_drew ?_))); (case side2 => exact HC0.out); rintro e w' ⟨rfl, ⟨nd, rfl⟩⟩; refine ⟨_, rfl, ?_⟩) | ((with_reducible refine gate_callee (f := 119) rfl ?_); refine goesL_ (some 37) rfl rfl Tryz.func119 (by kernel_rfl) rfl #[.int .i64 (rd l1 a3), .int .i64 t288] rfl (by (try simp only [List.map_toArray, List.map_cons, List.map_nil]); first | done | rfl | (simp only [List.length_drop, List.length_take]; rfl)) ?_; (with_reducible refine (spec_l1Min.calls (rd l1 a3) t288 t289 _ A23.out).mono ?_); rintro e w' ⟨rfl, ⟨nd, rfl⟩⟩; refine ⟨_, rfl, ?_⟩))
      go_meet
      case rel => exact ⟨_, (t289), (by first | rfl | (simp; done) | (simp [*]; done)), H', ⟨by first | omega | exact Nat.le_refl _⟩, ⟨by (with_reducible repeat (first | apply Kd.S_alloc | apply Kd.S_drewN | apply Kd.S_drew)); exact HO280.out⟩, ⟨by repeat (first | (with_reducible first | exact HB.out | apply below_alloc | apply pw_below_drewN | apply below_drew1) | exact HB.out)⟩⟩
     ·
      rw [if_neg c21] at H
      have c21b0 : decide (0 < a3) = false := decide_eq_false c21
      clear c21
      (first | rw [c21b0] | (simp only [i64_w, i32_w]; rw [c21b0]) | skip)
      have H' := Aside0.mk H
      clear H
      go_wp2
      go_meet
      case rel => exact ⟨_, (rd l1 a3), (by first | rfl | (simp; done) | (simp [*]; done)), H', ⟨by first | omega | exact Nat.le_refl _⟩, ⟨by (with_reducible repeat (first | apply Kd.S_alloc | apply Kd.S_drewN | apply Kd.S_drew)); exact HO280.out⟩, ⟨by repeat (first | (with_reducible first | exact HB.out | apply below_alloc | apply pw_below_drewN | apply below_drew1) | exact HB.out)⟩⟩
    case rest =>
     clear HC18
     try clear c1
     try clear c2
     try clear p2
     try clear q2
     try clear hx2
     try clear c5
     try clear c5b0
     try clear c5b1
     try clear c6
     try clear c6b0
     try clear c6b1
     try clear p6
     try clear c7
     try clear c11
     try clear c12
     try clear c14
     try clear c16
     try clear c16b0
     try clear c17
     try clear c17b0
     try clear c21
     try clear c21b0
     try clear hx287_0
     try clear p287
     try clear q287
     obtain ⟨kq, x10_17, rfl, HA, HJ17, HO_9, HB⟩ := hcut
     cases kq with
     | zero => exact absurd HA.out (by simp [spec_l7Strips.j0])
     | succ kj17 =>
      have H := HA.out
      clear HA
      simp only [spec_l7Strips.j0] at H
      replace H := Option.bind_eq_some_iff.mp H
      obtain ⟨t290, A240, H⟩ := H
      replace H : (spec_l7Strips.l0 kj17 l0 l1 a2 a3 y278 x10_17 t290) = some r := H
      have A24 := Aside0.mk A240
      clear A240
      have H' := Aside0.mk H
      clear H
      go_wp2_with (first | ((with_reducible refine gate_callee (f := 141) rfl ?_); refine goesL_ (some 40) rfl rfl Tryz.func141 (by kernel_rfl) rfl #[.slice A0 l0.length c0, .int .i64 a3] rfl (by (try simp only [List.map_toArray, List.map_cons, List.map_nil]); first | done | rfl | (simp only [List.length_drop, List.length_take]; rfl)) ?_; (with_reducible refine (spec_l2At.calls _ _ l0 a3 t290 _ ?side1 ?side2 A24.out).mono ?_); (case side1 => repeat (first | exact (Kd.C_below HR0.out HB.out) | (with_reducible refine Kd.C_alloc ?_ _) | (with_reducible refine Kd.C_drewN ?_ _) | (with_reducible refine Kd.C_drew ?_))); (case side2 => exact HC0.out); rintro e w' ⟨rfl, ⟨nd, rfl⟩⟩; refine ⟨_, rfl, ?_⟩))
      go_loopg [9, 11] kj17 (fun kq v9 v11 w' => ∃ (x9_2 : List (List Int)) (x11_2 : Int), v11 = .int .i64 x11_2 ∧ Aside0 (spec_l7Strips.l0 kq l0 l1 a2 a3 x9_2 x10_17 x11_2 = some r) ∧ Aside0 (kq ≤ kj17) ∧ Aside0 (Kd.S (Kd.slice 3 (Kd.int .i64)) 24 w' w.heap.size (fun _ => True) v9 x9_2) ∧ Aside0 (Below w.heap.size w w'))
      case atStart => exact ⟨(y278), (t290), (by first | rfl | (simp; done) | (simp [*]; done)), H', ⟨Nat.le_refl _⟩, ⟨by (with_reducible repeat (first | apply Kd.S_alloc | apply Kd.S_drewN | apply Kd.S_drew)); exact HO_9.out⟩, ⟨by repeat (first | (with_reducible first | exact HB.out | apply below_alloc | apply pw_below_drewN | apply below_drew1) | exact HB.out)⟩⟩
      case round =>
       clear H'
       try clear c1
       try clear c2
       try clear p2
       try clear q2
       try clear hx2
       try clear c5
       try clear c5b0
       try clear c5b1
       try clear c6
       try clear c6b0
       try clear c6b1
       try clear p6
       try clear c7
       try clear c11
       try clear c12
       try clear c14
       try clear c16
       try clear c16b0
       try clear c17
       try clear c17b0
       try clear c21
       try clear c21b0
       try clear hx287_0
       try clear p2
       try clear p287
       try clear p6
       try clear q2
       try clear q287
       obtain ⟨x9_2, x11_2, rfl, HA, HK2, HO_9, HB⟩ := hrel
       cases gk with
       | zero => exact absurd HA.out (by simp [spec_l7Strips.l0])
       | succ k2 =>
        have H := HA.out
        clear HA
        simp only [spec_l7Strips.l0] at H
        have HC25 := Aside0.mk H
        clear H
        go_upto_region 10 with (fail)
        go_cut [52] (fun v52 wc => ∃ (kq : Nat) (x52_24 : Bool), v52 = .bool x52_24 ∧ Aside0 (spec_l7Strips.j2 kq l0 l1 a2 a3 x9_2 x10_17 x11_2 x52_24 = some r) ∧ Aside0 (kq ≤ k2) ∧ Aside0 (Kd.S (Kd.slice 3 (Kd.int .i64)) 24 wc w.heap.size (fun _ => True) u9 x9_2) ∧ Aside0 (Below w.heap.size w wc))
        case first =>
         have H := HC25.out
         clear HC25
         by_cases c26 : x11_2 ≤ x10_17
         ·
          rw [if_pos c26] at H
          have c26b0 : decide (x11_2 ≤ x10_17) = true := decide_eq_true c26
          clear c26
          (first | rw [c26b0] | (simp only [i64_w, i32_w]; rw [c26b0]) | skip)
          replace H := Option.bind_eq_some_iff.mp H
          obtain ⟨t291, A270, H⟩ := H
          replace H : (spec_l7Strips.j2 k2 l0 l1 a2 a3 x9_2 x10_17 x11_2 (decide ((wrap64 (x11_2 - t291)) ≤ a2))) = some r := H
          have A27 := Aside0.mk A270
          clear A270
          have H' := Aside0.mk H
          clear H
          go_wp2_with (first | (go_at_call 141; (with_reducible refine (spec_l2At.calls _ _ l0 a3 t291 _ ?side1 ?side2 A27.out).mono ?_); (case side1 => repeat (first | exact (Kd.C_below HR0.out HB.out) | (with_reducible refine Kd.C_alloc ?_ _) | (with_reducible refine Kd.C_drewN ?_ _) | (with_reducible refine Kd.C_drew ?_))); (case side2 => exact HC0.out); rintro e w' ⟨rfl, ⟨nd, rfl⟩⟩))
          go_meet
          case rel => exact ⟨_, (decide ((wrap64 (x11_2 - t291)) ≤ a2)), (by first | rfl | (simp; done) | (simp [*]; done)), H', ⟨by have := HJ17.out; have := HK2.out; first | omega | exact Nat.le_refl _⟩, ⟨by (with_reducible repeat (first | apply Kd.S_alloc | apply Kd.S_drewN | apply Kd.S_drew)); exact HO_9.out⟩, ⟨by repeat (first | (with_reducible first | exact HB.out | apply below_alloc | apply pw_below_drewN | apply below_drew1) | exact HB.out)⟩⟩
         ·
          rw [if_neg c26] at H
          have c26b0 : decide (x11_2 ≤ x10_17) = false := decide_eq_false c26
          clear c26
          (first | rw [c26b0] | (simp only [i64_w, i32_w]; rw [c26b0]) | skip)
          have H' := Aside0.mk H
          clear H
          go_wp2
          go_meet
          case rel => exact ⟨_, (false), (by first | rfl | (simp; done) | (simp [*]; done)), H', ⟨by have := HJ17.out; have := HK2.out; first | omega | exact Nat.le_refl _⟩, ⟨by (with_reducible repeat (first | apply Kd.S_alloc | apply Kd.S_drewN | apply Kd.S_drew)); exact HO_9.out⟩, ⟨by repeat (first | (with_reducible first | exact HB.out | apply below_alloc | apply pw_below_drewN | apply below_drew1) | exact HB.out)⟩⟩
        case rest =>
         clear HC25
         try clear c1
         try clear c2
         try clear p2
         try clear q2
         try clear hx2
         try clear c5
         try clear c5b0
         try clear c5b1
         try clear c6
         try clear c6b0
         try clear c6b1
         try clear p6
         try clear c7
         try clear c11
         try clear c12
         try clear c14
         try clear c16
         try clear c16b0
         try clear c17
         try clear c17b0
         try clear c21
         try clear c21b0
         try clear c26
         try clear c26b0
         try clear hx287_0
         try clear p2
         try clear p287
         try clear p6
         try clear q2
         try clear q287
         obtain ⟨kq, x52_24, rfl, HA, HJ24, HO_9, HB⟩ := hcut
         cases kq with
         | zero => exact absurd HA.out (by simp [spec_l7Strips.j2])
         | succ kj24 =>
          have H := HA.out
          clear HA
          simp only [spec_l7Strips.j2] at H
          by_cases c28 : x52_24 = true
          ·
           subst c28
           have H1 : ((spec_l2At.f l0 a3).bind fun t292 => ((spec_l7Strips.f kj24 l0 l1 (wrap64 ((wrap64 (a2 - x11_2)) + t292)) (wrap64 (a3 + 1))).bind fun t293 => (spec_l7Strips.l1 kj24 l0 l1 a2 a3 x9_2 x10_17 x11_2 t293 0))) = some r := by rw [if_pos rfl] at H; exact H
           clear H
           have H := H1
           clear H1
           replace H := Option.bind_eq_some_iff.mp H
           obtain ⟨t292, A290, H⟩ := H
           replace H : ((spec_l7Strips.f kj24 l0 l1 (wrap64 ((wrap64 (a2 - x11_2)) + t292)) (wrap64 (a3 + 1))).bind fun t293 => (spec_l7Strips.l1 kj24 l0 l1 a2 a3 x9_2 x10_17 x11_2 t293 0)) = some r := H
           have A29 := Aside0.mk A290
           clear A290
           replace H := Option.bind_eq_some_iff.mp H
           obtain ⟨t293, A300, H⟩ := H
           replace H : (spec_l7Strips.l1 kj24 l0 l1 a2 a3 x9_2 x10_17 x11_2 t293 0) = some r := H
           have A30 := Aside0.mk A300
           clear A300
           have H' := Aside0.mk H
           clear H
           go_wp2_with (first | ((with_reducible refine gate_callee (f := 141) rfl ?_); refine goesL_ (some 62) rfl rfl Tryz.func141 (by kernel_rfl) rfl #[.slice A0 l0.length c0, .int .i64 a3] rfl (by (try simp only [List.map_toArray, List.map_cons, List.map_nil]); first | done | rfl | (simp only [List.length_drop, List.length_take]; rfl)) ?_; (with_reducible refine (spec_l2At.calls _ _ l0 a3 t292 _ ?side1 ?side2 A29.out).mono ?_); (case side1 => repeat (first | exact (Kd.C_below HR0.out HB.out) | (with_reducible refine Kd.C_alloc ?_ _) | (with_reducible refine Kd.C_drewN ?_ _) | (with_reducible refine Kd.C_drew ?_))); (case side2 => exact HC0.out); rintro e w' ⟨rfl, ⟨nd, rfl⟩⟩; refine ⟨_, rfl, ?_⟩) | ((with_reducible refine gate_callee (f := 120) rfl ?_); refine goesL_ (some 66) rfl rfl Tryz.func120 (by kernel_rfl) rfl #[.slice A0 l0.length c0, .slice (some ad287) l1.length c1, .int .i64 (wrap64 ((wrap64 (a2 - x11_2)) + t292)), .int .i64 (wrap64 (a3 + 1))] rfl (by (try simp only [List.map_toArray, List.map_cons, List.map_nil]); first | done | rfl | (simp only [List.length_drop, List.length_take]; rfl)) ?_; (with_reducible refine (ih kj24 (by have := HJ17.out; have := HK2.out; have := HJ24.out; omega) _ _ l0 _ _ l1 (wrap64 ((wrap64 (a2 - x11_2)) + t292)) (wrap64 (a3 + 1)) t293 _ ?side1 ?side2 ?side3 ?side4 A30.out).mono ?_); (case side1 => repeat (first | exact (Kd.C_below HR0.out (by repeat (first | (with_reducible first | exact HB.out | apply below_alloc | apply pw_below_drewN | apply below_drew1) | exact HB.out))) | (with_reducible refine Kd.C_alloc ?_ _) | (with_reducible refine Kd.C_drewN ?_ _) | (with_reducible refine Kd.C_drew ?_))); (case side2 => exact HC0.out); (case side3 => repeat (first | exact (Kd.C_below HR1.out (by repeat (first | (with_reducible first | exact HB.out | apply below_alloc | apply pw_below_drewN | apply below_drew1) | exact HB.out))) | (with_reducible refine Kd.C_alloc ?_ _) | (with_reducible refine Kd.C_drewN ?_ _) | (with_reducible refine Kd.C_drew ?_))); (case side4 => exact HC1.out); rintro e w31 ⟨v294, rfl, ho0, hb⟩; refine ⟨_, rfl, ?_⟩; have n0_ := Aside0.mk (Kd.S_elder' (by (with_reducible repeat (first | apply Kd.S_alloc | apply Kd.S_drewN | apply Kd.S_drew)); exact HO_9.out) (Kd.S_base ho0) hb); have n1_ := Aside0.mk (Kd.S_lower (Kd.S_new' ho0 (Kd.S_lt (by (with_reducible repeat (first | apply Kd.S_alloc | apply Kd.S_drewN | apply Kd.S_drew)); exact HO_9.out))) (below_size (by repeat (first | (with_reducible first | exact HB.out | apply below_alloc | apply pw_below_drewN | apply below_drew1) | exact HB.out)))); have n2_ := Aside0.mk (below_step (by repeat (first | (with_reducible first | exact HB.out | apply below_alloc | apply pw_below_drewN | apply below_drew1) | exact HB.out)) hb); clear HO_9; clear HB; have HO_9 := n0_; have HO295 := n1_; have HB := n2_; clear n0_ n1_ n2_; (try clear hb); (try clear hb2); (try clear hk); (try clear hi); (try clear ho0)))
           go_loopg [9, 13] kj24 (fun kq v9 v13 w' => ∃ (x9_4 : List (List Int)) (x13_4 : Int), v13 = .int .i64 x13_4 ∧ Aside0 (spec_l7Strips.l1 kq l0 l1 a2 a3 x9_4 x10_17 x11_2 t293 x13_4 = some r) ∧ Aside0 (kq ≤ kj24) ∧ Aside0 (Kd.S (Kd.slice 3 (Kd.int .i64)) 24 w' w.heap.size (fun k_ => some k_ ≠ (v294 : Value).ownBlock) v9 x9_4) ∧ Aside0 (Kd.S (Kd.slice 3 (Kd.int .i64)) 24 w' w.heap.size (fun k_ => some k_ ≠ (v9 : Value).ownBlock) v294 t293) ∧ Aside0 (Below w.heap.size w w'))
           case atStart => exact ⟨(x9_2), (0), (by first | rfl | (simp; done) | (simp [*]; done)), H', ⟨Nat.le_refl _⟩, ⟨by (with_reducible repeat (first | apply Kd.S_alloc | apply Kd.S_drewN | apply Kd.S_drew)); exact Kd.S_mono HO_9.out (fun _ hk => hk.2)⟩, ⟨by (with_reducible repeat (first | apply Kd.S_alloc | apply Kd.S_drewN | apply Kd.S_drew)); exact Kd.S_mono HO295.out (fun _ hk => hk.2)⟩, ⟨by repeat (first | (with_reducible first | exact HB.out | apply below_alloc | apply pw_below_drewN | apply below_drew1) | exact HB.out)⟩⟩
           case round =>
            clear H'
            try clear c1
            try clear c2
            try clear p2
            try clear q2
            try clear hx2
            try clear c5
            try clear c5b0
            try clear c5b1
            try clear c6
            try clear c6b0
            try clear c6b1
            try clear p6
            try clear c7
            try clear c11
            try clear c12
            try clear c14
            try clear c16
            try clear c16b0
            try clear c17
            try clear c17b0
            try clear c21
            try clear c21b0
            try clear c26
            try clear c26b0
            try clear c28
            try clear p28
            try clear q28
            try clear hx28
            try clear hx287_0
            try clear p2
            try clear p287
            try clear p6
            try clear q2
            try clear q287
            obtain ⟨x9_4, x13_4, rfl, HA, HK4, HO_9, HO_12, HB⟩ := hrel
            cases gk with
            | zero => exact absurd HA.out (by simp [spec_l7Strips.l1])
            | succ k4 =>
             have H := HA.out
             clear HA
             simp only [spec_l7Strips.l1] at H
             by_cases c32 : x13_4 < (t293.length : Int)
             ·
              rw [if_pos c32] at H
              have c32b0 : decide (x13_4 < (t293.length : Int)) = true := decide_eq_true c32
              clear c32
              obtain ⟨y296, hy296⟩ : ∃ y_ : List Int, y_ = (([x11_2] : List Int)) := ⟨_, rfl⟩
              replace H : (if 0 ≤ x13_4 then (if y296.length + (rd_L3 t293 x13_4).length < 17592186044416 then (if x9_4.length < 5864062014805 then (spec_l7Strips.l1 k4 l0 l1 a2 a3 (x9_4 ++ [(y296 ++ (rd_L3 t293 x13_4))]) x10_17 x11_2 t293 (wrap64 (x13_4 + 1))) else (none)) else (none)) else (none)) = some r := by first | (rw [hy296]; with_reducible exact H) | (have H2_ := (Option.bind_some _ _).symm.trans H; rw [hy296]; with_reducible exact H2_) | (have H2_ := (Option.bind_some _ _).symm.trans H; with_reducible exact H2_) | with_reducible exact H | (rw [hy296]; exact H) | exact H
              have Ny296 := Aside0.mk hy296
              clear hy296
              by_cases c33 : 0 ≤ x13_4
              ·
               rw [if_pos c33] at H
               have c33b0 : decide (0 ≤ x13_4) = true := decide_eq_true c33
               clear c33
               by_cases c34 : y296.length + (rd_L3 t293 x13_4).length < 17592186044416
               ·
                rw [if_pos c34] at H
                have LMc34 := Aside0.mk c34
                clear c34
                obtain ⟨y300, hy300⟩ : ∃ y_ : List Int, y_ = (y296 ++ (rd_L3 t293 x13_4)) := ⟨_, rfl⟩
                replace H : (if x9_4.length < 5864062014805 then (spec_l7Strips.l1 k4 l0 l1 a2 a3 (x9_4 ++ [y300]) x10_17 x11_2 t293 (wrap64 (x13_4 + 1))) else (none)) = some r := by first | (rw [hy300]; with_reducible exact H) | (have H2_ := (Option.bind_some _ _).symm.trans H; rw [hy300]; with_reducible exact H2_) | (have H2_ := (Option.bind_some _ _).symm.trans H; with_reducible exact H2_) | with_reducible exact H | (rw [hy300]; exact H) | exact H
                have Ny300 := Aside0.mk hy300
                clear hy300
                by_cases c35 : x9_4.length < 5864062014805
                ·
                 rw [if_pos c35] at H
                 have LMc35 := Aside0.mk c35
                 clear c35
                 obtain ⟨y303, hy303⟩ : ∃ y_ : List (List Int), y_ = (x9_4 ++ [y300]) := ⟨_, rfl⟩
                 replace H : (spec_l7Strips.l1 k4 l0 l1 a2 a3 y303 x10_17 x11_2 t293 (wrap64 (x13_4 + 1))) = some r := by first | (rw [hy303]; with_reducible exact H) | (have H2_ := (Option.bind_some _ _).symm.trans H; rw [hy303]; with_reducible exact H2_) | (have H2_ := (Option.bind_some _ _).symm.trans H; with_reducible exact H2_) | with_reducible exact H | (rw [hy303]; exact H) | exact H
                 have Ny303 := Aside0.mk hy303
                 clear hy303
                 have H' := Aside0.mk H
                 clear H
                 obtain ⟨Ao36, co36, eo36⟩ := Kd.S_slice HO_12.out
                 subst eo36
                 go_wp2_with (first | ((with_reducible refine gate_dst (N := 75) rfl ?_); refine Kd.R_lit (Kd.int .i64) _ 3 ?hg (N := 75) ?hd (xs := ([x11_2] : List Int)) (inner := [.int .i64 x11_2]) (ok := fun _ => True) (okp := fun _ => True) ?hr ?hp (fun _ hk => hk) trivial (Below.refl _ _) (Nat.le_refl _) (by simp) ?_; (case hd => rfl); (case hg => rfl); (case hr => first | (go_simp; done) | (go_simp; rfl)); (case hp => exact (Reps.one (show Kd.M (Kd.int .i64) _ _ _ x11_2 [.int .i64 x11_2] from rfl) (Reps.none _ _))); intro v297 w37 ho38 hb hg_ hnew_; clear hg_ hnew_; (first | rw [← Ny296.out] at ho38 | (simp only [Int.reduceToNat] at ho38; rw [← Ny296.out] at ho38)); have n0_ := Aside0.mk (Kd.S_elder' (by (with_reducible repeat (first | apply Kd.S_alloc | apply Kd.S_drewN | apply Kd.S_drew)); exact HO_9.out) (Kd.R_base ho38) hb); have n1_ := Aside0.mk (Kd.S_elder' (by (with_reducible repeat (first | apply Kd.S_alloc | apply Kd.S_drewN | apply Kd.S_drew)); exact HO_12.out) (Kd.R_base ho38) hb); have n2_ := Aside0.mk (Kd.R_lower ho38 (below_size (by repeat (first | (with_reducible first | exact HB.out | apply below_alloc | apply pw_below_drewN | apply below_drew1) | exact HB.out)))); have n3_ := Aside0.mk (below_step (by repeat (first | (with_reducible first | exact HB.out | apply below_alloc | apply pw_below_drewN | apply below_drew1) | exact HB.out)) hb); clear HO_9; clear HO_12; clear HB; have HO_9 := n0_; have HO_12 := n1_; have HO298 := n2_; have HB := n3_; clear n0_ n1_ n2_ n3_; clear hb ho38; have p299 : 0 ≤ (x13_4 : Int) := of_decide_eq_true (by first | (with_reducible assumption) | assumption); have q299 : x13_4 < (t293.length : Int) := of_decide_eq_true (by first | (with_reducible assumption) | assumption); obtain ⟨ad299, A299_0, c299_0, e299, hx299_0, hl299_0, hi299_0⟩ := at_L3 (Kd.S_reads' HO_12.out).2.2 x13_4 p299 q299; cases e299; obtain ⟨ce299, hce299, hMe299, hcc299⟩ := Kd.S_get HO_12.out [] x13_4 p299 (by first | exact q299 | exact of_decide_eq_true (by first | (with_reducible assumption) | assumption) | (have e_ := (Kd.S_reads' HO_12.out).1; omega)); obtain ⟨ve299_0, rfl, ge299_0⟩ := hMe299; have hv299_0 := hcc299 0 _ rfl; rw [Nat.add_zero, show ((Kd.slice 3 (Kd.int .i64))).sz = 1 from rfl, Nat.mul_one] at hv299_0; replace hv299_0 := Option.some.inj (hv299_0.symm.trans hx299_0); rw [hv299_0] at ge299_0; have HL299_0 := Aside0.mk (show Kd.R (Kd.int .i64) 3 _ _ _ _ (rd_L3 t293 x13_4) from ge299_0); clear hv299_0 ge299_0; clear hcc299 hce299; have HR299_0 := Aside0.mk hi299_0; have HC299_0 := Aside0.mk hl299_0; clear hi299_0 hl299_0; replace p299 := eq_true p299; replace q299 := eq_true q299) | ((with_reducible refine gate_builtin (b := .append) (xs := #[.tmp 75, .tmp 79]) rfl ?_); at_builtin; refine Kd.R_append_rows (Kd.int .i64) (w0 := w) w.heap.size rfl (.tmp 75) (.tmp 79) 24 3 (.int .i64 0) 8 rfl Tryz.underlying24 info3 rfl (by decide) (by omega) v297 y296 (rd_L3 t293 x13_4) _ _ _ (fun _ => True) (fun _ => False) rfl rfl ?aO ?aR (fun _ _ h => h) (fun _ h => h.elim) ?aF ?aB ?aS ?aL ?_; (case aR => repeat (first | exact (by repeat (first | (with_reducible exact HR299_0.out) | (with_reducible refine Kd.C_alloc ?_ _) | (with_reducible refine Kd.C_drewN ?_ _) | (with_reducible refine Kd.C_drew ?_) | exact HR299_0.out)) | (with_reducible refine Kd.C_alloc ?_ _) | (with_reducible refine Kd.C_drewN ?_ _) | (with_reducible refine Kd.C_drew ?_))); (case aB => exact (by repeat (first | (with_reducible first | exact HB.out | apply below_alloc | apply pw_below_drewN | apply below_drew1) | exact HB.out))); (case aF => exact (fun _ _ => trivial)); (case aO => exact (by (with_reducible repeat (first | apply Kd.R_alloc | apply Kd.R_drewN | apply Kd.R_drew)); exact HO298.out)); (case aS => exact (below_size (by repeat (first | (with_reducible first | exact HB.out | apply below_alloc | apply pw_below_drewN | apply below_drew1) | exact HB.out)))); (case aL => have := LMc34.out; omega); intro v301 w39 ho hb hg hat; rw [← Ny300.out] at ho; have n0_ := Aside0.mk (Kd.S_after (ok := (fun k_ => some k_ ≠ (.slice (some ad299) t293.length co36 : Value).ownBlock)) (by (with_reducible repeat (first | apply Kd.S_alloc | apply Kd.S_drewN | apply Kd.S_drew)); exact HO_9.out) hg hat); have n1_ := Aside0.mk (Kd.S_after (ok := (fun k_ => some k_ ≠ (u9 : Value).ownBlock)) (by (with_reducible repeat (first | apply Kd.S_alloc | apply Kd.S_drewN | apply Kd.S_drew)); exact HO_12.out) hg hat); have n2_ := Aside0.mk (Kd.R_after (ok := (fun k_ => some k_ ≠ (u9 : Value).ownBlock ∧ some k_ ≠ (.slice (some ad299) t293.length co36 : Value).ownBlock)) (by (with_reducible repeat (first | apply Kd.R_alloc | apply Kd.R_drewN | apply Kd.R_drew)); exact Kd.R_mono HL299_0.out (fun _ hk => ⟨⟨hk.1.1, hk.2⟩, hk.1.2⟩)) hg hat); have n3_ := Aside0.mk (hb); have n4_ := Aside0.mk (ho); clear HO_9; clear HO_12; clear HL299_0; clear HB; clear HO298; have HO_9 := n0_; have HO_12 := n1_; have HL299_0 := n2_; have HB := n3_; have HO302 := n4_; clear n0_ n1_ n2_ n3_ n4_; clear ho hb hg hat; obtain ⟨Ao41, co41, eo41⟩ := Kd.R_slice HO302.out; subst eo41) | ((with_reducible refine gate_builtin (b := .append) (xs := #[.tmp 73, .tmp 81]) rfl ?_); at_builtin; refine Kd.S_append (Kd.slice 3 (Kd.int .i64)) (w0 := w) w.heap.size rfl (.tmp 73) (.tmp 81) 39 24 (.slice none 0 0) 24 rfl Tryz.underlying39 info24 rfl (by decide) (by omega) u9 x9_4 y300 [.slice Ao41 y300.length co41] (fun k_ => some k_ ≠ (.slice (some ad299) t293.length co36 : Value).ownBlock) (fun k_ => some k_ = (.slice Ao41 y300.length co41 : Value).ownBlock) rfl rfl ?aP (fun k_ hk_ => ((Kd.R_mono (ok' := fun k_ => ((fun k_ => some k_ ≠ (.slice (some ad299) t293.length co36 : Value).ownBlock)) k_ ∧ some k_ ≠ (u9 : Value).ownBlock) (Kd.R_apart' (Kd.R_apart' (HO302.out) (Kd.S_typed HO_12.out) (by decide)) (Kd.S_typed HO_9.out) (by decide)) (fun k_ hk => ⟨hk.1.2, hk.2⟩))).1 k_ hk_.symm) ?aF ?aO ?aB ?aS ?aL ?_; (case aP => exact Kd.M_row (Kd.R_mono (Kd.R_tight rfl (Kd.R_mono (ok' := fun k_ => ((fun k_ => some k_ ≠ (.slice (some ad299) t293.length co36 : Value).ownBlock)) k_ ∧ some k_ ≠ (u9 : Value).ownBlock) (Kd.R_apart' (Kd.R_apart' (HO302.out) (Kd.S_typed HO_12.out) (by decide)) (Kd.S_typed HO_9.out) (by decide)) (fun k_ hk => ⟨hk.1.2, hk.2⟩))) (fun _ h_ => h_))); (case aB => exact (by repeat (first | (with_reducible first | exact HB.out | apply below_alloc | apply pw_below_drewN | apply below_drew1) | exact HB.out))); (case aF => exact (fun k_ hk => Kd.fresh' (Kd.S_lt (by (with_reducible repeat (first | apply Kd.S_alloc | apply Kd.S_drewN | apply Kd.S_drew)); exact HO_12.out)) k_ hk)); (case aO => exact (by (with_reducible repeat (first | apply Kd.S_alloc | apply Kd.S_drewN | apply Kd.S_drew)); exact Kd.S_mono HO_9.out (fun k_ hk => ⟨hk.1, fun e_ => hk.2 e_⟩))); (case aS => exact (below_size (by repeat (first | (with_reducible first | exact HB.out | apply below_alloc | apply pw_below_drewN | apply below_drew1) | exact HB.out)))); (case aL => have := LMc35.out; omega); intro v304 w40 ho hb hg hat; rw [← Ny303.out] at ho; have n0_ := Aside0.mk (Kd.S_after (ok := (fun k_ => some k_ ≠ (.slice Ao41 y300.length co41 : Value).ownBlock)) (by (with_reducible repeat (first | apply Kd.S_alloc | apply Kd.S_drewN | apply Kd.S_drew)); exact Kd.S_mono HO_12.out (fun _ hk => ⟨hk.2, hk.1⟩)) hg hat); have n1_ := Aside0.mk (Kd.R_after (ok := (fun k_ => some k_ ≠ (.slice (some ad299) t293.length co36 : Value).ownBlock ∧ some k_ ≠ (.slice Ao41 y300.length co41 : Value).ownBlock)) (by (with_reducible repeat (first | apply Kd.R_alloc | apply Kd.R_drewN | apply Kd.R_drew)); exact Kd.R_mono HL299_0.out (fun _ hk => ⟨⟨hk.1.2, hk.2⟩, hk.1.1⟩)) hg hat); have n2_ := Aside0.mk (hb); have n3_ := Aside0.mk (ho); clear HO_12; clear HL299_0; clear HB; clear HO_9; clear HO302; have HO_12 := n0_; have HL299_0 := n1_; have HB := n2_; have HO305 := n3_; clear n0_ n1_ n2_ n3_; clear ho hb hg hat))
                 go_roundg k4
                 case measure => have := HJ17.out; have := HK2.out; have := HJ24.out; have := HK4.out; omega
                 case rel => exact ⟨(y303), (wrap64 (x13_4 + 1)), (by first | rfl | (simp; done) | (simp [*]; done)), H', ⟨by have := HJ17.out; have := HK2.out; have := HJ24.out; have := HK4.out; omega⟩, ⟨by (with_reducible repeat (first | apply Kd.S_alloc | apply Kd.S_drewN | apply Kd.S_drew)); exact HO305.out⟩, ⟨by (with_reducible repeat (first | apply Kd.S_alloc | apply Kd.S_drewN | apply Kd.S_drew)); exact Kd.S_mono HO_12.out (fun _ hk => hk.2)⟩, ⟨by repeat (first | (with_reducible first | exact HB.out | apply below_alloc | apply pw_below_drewN | apply below_drew1) | exact HB.out)⟩⟩
                ·
                 rw [if_neg c35] at H
                 exact absurd H (by simp)
               ·
                rw [if_neg c34] at H
                exact absurd H (by simp)
              ·
               rw [if_neg c33] at H
               exact absurd H (by simp)
             ·
              rw [if_neg c32] at H
              have c32b0 : decide (x13_4 < (t293.length : Int)) = false := decide_eq_false c32
              clear c32
              have H' := Aside0.mk H
              clear H
              obtain ⟨Ao42, co42, eo42⟩ := Kd.S_slice HO_12.out
              subst eo42
              go_wp2
              go_roundg k4
              case measure => have := HJ17.out; have := HK2.out; have := HJ24.out; have := HK4.out; omega
              case rel => exact ⟨(x9_4), (wrap64 (x11_2 + 1)), (by first | rfl | (simp; done) | (simp [*]; done)), H', ⟨by have := HJ17.out; have := HK2.out; have := HJ24.out; have := HK4.out; omega⟩, ⟨by (with_reducible repeat (first | apply Kd.S_alloc | apply Kd.S_drewN | apply Kd.S_drew)); exact Kd.S_mono HO_9.out (fun _ hk => trivial)⟩, ⟨by repeat (first | (with_reducible first | exact HB.out | apply below_alloc | apply pw_below_drewN | apply below_drew1) | exact HB.out)⟩⟩
          ·
           replace c28 := Bool.eq_false_iff.mpr c28
           subst c28
           have H1 : (some x9_2) = some r := by rw [if_neg (show ¬ (false = true) by decide)] at H; exact H
           clear H
           have H := H1
           clear H1
           obtain rfl := Option.some.inj H
           go_wp2
           go_ret
           exact ⟨_, by first | rfl | (simp [errW_none, errW_some] <;> rfl) | (simp [*, errW_none, errW_some] <;> rfl), by (with_reducible repeat (first | apply Kd.S_alloc | apply Kd.S_drewN | apply Kd.S_drew)); exact HO_9.out, by repeat (first | (with_reducible first | exact HB.out | apply below_alloc | apply pw_below_drewN | apply below_drew1) | exact HB.out)⟩
   ·
    rw [if_neg c17] at H
    exact absurd H (by simp)
  ·
   rw [if_neg c16] at H
   exact absurd H (by simp)
def spec_l7Trim.l0 : Nat → List Int → Int → Option (List Int)
  | 0, _, _ => none
  | k + 1, x0, x3 => if x3 > 0 then (if 0 ≤ (wrap64 (x3 - 1)) then (if (wrap64 (x3 - 1)) < (x0.length : Int) then (if (rd x0 (wrap64 (x3 - 1))) = 0 then (spec_l7Trim.l0 k x0 (wrap64 (x3 - 1))) else ((some (([] : List Int) : List Int)).bind fun y307 => (if 0 ≤ x3 then (if x3 ≤ (x0.length : Int) then (if y307.length + (x0.take (x3 : Int).toNat).length < 17592186044416 then (some (y307 ++ (x0.take (x3 : Int).toNat))) else (none)) else (none)) else (none)))) else (none)) else (none)) else ((some (([] : List Int) : List Int)).bind fun y314 => (if 0 ≤ x3 then (if x3 ≤ (x0.length : Int) then (if y314.length + (x0.take (x3 : Int).toNat).length < 17592186044416 then (some (y314 ++ (x0.take (x3 : Int).toNat))) else (none)) else (none)) else (none)))
def spec_l7Trim.f (k : Nat) (l0 : List Int) : Option (List Int) := spec_l7Trim.l0 k l0 (l0.length : Int)
set_option maxHeartbeats 8000000 in
set_option maxRecDepth 100000 in
theorem spec_l7Trim.calls (k : Nat) (A0 : Option Addr) (c0 : Nat) (l0 : List Int) (r : List Int) (w : World) (hr0 : Kd.C (Kd.int .i64) w A0 l0.length l0) (hc0 : l0.length ≤ c0) (h : spec_l7Trim.f k l0 = some r) :
  Calls Tryz.prog 121 #[.slice A0 l0.length c0] w fun e w' => ∃ v0_ : Value, e = .returned (v0_) ∧ Kd.R (Kd.int .i64) 3 w' w.heap.size (fun _ => True) v0_ r ∧ Below w.heap.size w w' := by
 have HR0 := Aside0.mk hr0
 have HC0 := Aside0.mk hc0
 clear hr0 hc0
 have HB := Aside0.mk (Below.refl w.heap.size w)
 have H : (spec_l7Trim.l0 k l0 (l0.length : Int)) = some r := h
 clear h
 have H' := Aside0.mk H
 clear H
 go_enter Tryz.func121, Tryz.ntmps121
 go_wp2
 go_loopg [3] k (fun kq v3 w' => ∃ (x3_1 : Int), v3 = .int .i64 x3_1 ∧ Aside0 (spec_l7Trim.l0 kq l0 x3_1 = some r) ∧ Aside0 (kq ≤ k) ∧ Aside0 (Below w.heap.size w w'))
 case atStart => exact ⟨((l0.length : Int)), (by first | rfl | (simp; done) | (simp [*]; done)), H', ⟨Nat.le_refl _⟩, ⟨by repeat (first | (with_reducible first | exact HB.out | apply below_alloc | apply pw_below_drewN | apply below_drew1) | exact HB.out)⟩⟩
 case round =>
  clear H'
  try clear c1
  obtain ⟨x3_1, rfl, HA, HK1, HB⟩ := hrel
  cases gk with
  | zero => exact absurd HA.out (by simp [spec_l7Trim.l0])
  | succ k1 =>
   have H := HA.out
   clear HA
   simp only [spec_l7Trim.l0] at H
   by_cases c2 : x3_1 > 0
   ·
    rw [if_pos c2] at H
    have c2b0 : decide (0 < x3_1) = true := decide_eq_true c2
    clear c2
    obtain ⟨ji3, hji3⟩ : ∃ j_ : Int, (wrap64 (x3_1 - 1)) = j_ := ⟨_, rfl⟩
    replace H : (if 0 ≤ (ji3) then (if (ji3) < (l0.length : Int) then (if (rd l0 (ji3)) = 0 then (spec_l7Trim.l0 k1 l0 ji3) else ((some (([] : List Int) : List Int)).bind fun y307 => (if 0 ≤ x3_1 then (if x3_1 ≤ (l0.length : Int) then (if y307.length + (l0.take (x3_1 : Int).toNat).length < 17592186044416 then (some (y307 ++ (l0.take (x3_1 : Int).toNat))) else (none)) else (none)) else (none)))) else (none)) else (none)) = some r := by first | (rw [hji3] at H; exact H) | (simp only [hji3] at H ⊢; exact H)
    have hji3w : (IntKind.i64.wrap (x3_1 - 1)) = ji3 := (i64_w _).trans hji3
    by_cases c4 : 0 ≤ (ji3)
    ·
     rw [if_pos c4] at H
     have c4b0 : decide (0 ≤ (ji3)) = true := decide_eq_true c4
     clear c4
     by_cases c5 : (ji3) < (l0.length : Int)
     ·
      rw [if_pos c5] at H
      have c5b0 : decide ((ji3) < (l0.length : Int)) = true := decide_eq_true c5
      clear c5
      by_cases c6 : (rd l0 (ji3)) = 0
      ·
       rw [if_pos c6] at H
       have c6b0 : ((rd l0 (ji3)) == 0) = true := beq_iff_eq.mpr c6
       have c6b1 : ((rd l0 (ji3)) != 0) = false := bne_eq_false_iff_eq.mpr c6
       clear c6
       have H' := Aside0.mk H
       clear H
       have p306 : 0 ≤ ((ji3) : Int) := of_decide_eq_true (by first | (with_reducible assumption) | assumption)
       have q306 : (ji3) < (l0.length : Int) := of_decide_eq_true (by first | (with_reducible assumption) | assumption)
       obtain ⟨ad306, e306, hx306_0⟩ := Kd.at_int HR0.out (ji3) p306 q306
       cases e306
       replace hx306_0 := (HB.out.cell (World.block_lt_of_cell? w _ hx306_0)).trans hx306_0
       replace p306 := eq_true p306
       replace q306 := eq_true q306
       go_wp2
       go_roundg k1
       case measure => have := HK1.out; omega
       case rel => exact ⟨(ji3), (by first | rfl | (simp; done) | (simp only [← hji3] <;> (first | rfl | simp)) | (simp [*]; done)), H', ⟨by have := HK1.out; omega⟩, ⟨by repeat (first | (with_reducible first | exact HB.out | apply below_alloc | apply pw_below_drewN | apply below_drew1) | exact HB.out)⟩⟩
      ·
       rw [if_neg c6] at H
       have c6b0 : ((rd l0 (ji3)) == 0) = false := beq_eq_false_iff_ne.mpr c6
       have c6b1 : ((rd l0 (ji3)) != 0) = true := bne_iff_ne.mpr c6
       obtain ⟨y307, hy307⟩ : ∃ y_ : List Int, y_ = (([] : List Int)) := ⟨_, rfl⟩
       replace H : (if 0 ≤ x3_1 then (if x3_1 ≤ (l0.length : Int) then (if y307.length + (l0.take (x3_1 : Int).toNat).length < 17592186044416 then (some (y307 ++ (l0.take (x3_1 : Int).toNat))) else (none)) else (none)) else (none)) = some r := by first | (rw [hy307]; with_reducible exact H) | (have H2_ := (Option.bind_some _ _).symm.trans H; rw [hy307]; with_reducible exact H2_) | (have H2_ := (Option.bind_some _ _).symm.trans H; with_reducible exact H2_) | with_reducible exact H | (rw [hy307]; exact H) | exact H
       have Ny307 := Aside0.mk hy307
       clear hy307
       by_cases c7 : 0 ≤ x3_1
       ·
        rw [if_pos c7] at H
        have c7b0 := eq_true c7
        have c7b1 : decide (0 ≤ x3_1) = true := decide_eq_true c7
        clear c7
        by_cases c8 : x3_1 ≤ (l0.length : Int)
        ·
         rw [if_pos c8] at H
         have c8b0 := eq_true c8
         have c8b1 : decide (x3_1 ≤ (l0.length : Int)) = true := decide_eq_true c8
         clear c8
         by_cases c9 : y307.length + (l0.take (x3_1 : Int).toNat).length < 17592186044416
         ·
          rw [if_pos c9] at H
          have LMc9 := Aside0.mk c9
          clear c9
          obtain ⟨y311, hy311⟩ : ∃ y_ : List Int, y_ = (y307 ++ (l0.take (x3_1 : Int).toNat)) := ⟨_, rfl⟩
          replace H : (some y311) = some r := by first | (rw [hy311]; with_reducible exact H) | (have H2_ := (Option.bind_some _ _).symm.trans H; rw [hy311]; with_reducible exact H2_) | (have H2_ := (Option.bind_some _ _).symm.trans H; with_reducible exact H2_) | with_reducible exact H | (rw [hy311]; exact H) | exact H
          have Ny311 := Aside0.mk hy311
          clear hy311
          obtain rfl := Option.some.inj H
          have p306 : 0 ≤ ((ji3) : Int) := of_decide_eq_true (by first | (with_reducible assumption) | assumption)
          have q306 : (ji3) < (l0.length : Int) := of_decide_eq_true (by first | (with_reducible assumption) | assumption)
          obtain ⟨ad306, e306, hx306_0⟩ := Kd.at_int HR0.out (ji3) p306 q306
          cases e306
          replace hx306_0 := (HB.out.cell (World.block_lt_of_cell? w _ hx306_0)).trans hx306_0
          replace p306 := eq_true p306
          replace q306 := eq_true q306
          go_wp2_with (first | ((with_reducible refine gate_dst (N := 18) rfl ?_); refine Kd.R_lit (Kd.int .i64) _ 3 ?hg (N := 18) ?hd (xs := ([] : List Int)) (inner := []) (ok := fun _ => True) (okp := fun _ => True) ?hr ?hp (fun _ hk => hk) trivial (Below.refl _ _) (Nat.le_refl _) (by simp) ?_; (case hd => rfl); (case hg => rfl); (case hr => first | (go_simp; done) | (go_simp; rfl)); (case hp => exact (Reps.none _ _)); intro v308 w10 ho11 hb hg_ hnew_; clear hg_ hnew_; (first | rw [← Ny307.out] at ho11 | (simp only [Int.reduceToNat] at ho11; rw [← Ny307.out] at ho11)); have n0_ := Aside0.mk (Kd.R_lower ho11 (below_size (by repeat (first | (with_reducible first | exact HB.out | apply below_alloc | apply pw_below_drewN | apply below_drew1) | exact HB.out)))); have n1_ := Aside0.mk (below_step (by repeat (first | (with_reducible first | exact HB.out | apply below_alloc | apply pw_below_drewN | apply below_drew1) | exact HB.out)) hb); clear HB; have HO309 := n0_; have HB := n1_; clear n0_ n1_; clear hb ho11; obtain ⟨i012, hi012, _, hsz12, _⟩ := info_parts info3; obtain ⟨hcut12, hA12, hC12⟩ := print_take_of (P := Tryz.prog) (Value.int .i64) 0 24 3 .i64 Tryz.underlying24 hi012 hsz12 (some ad306) c0 l0 x3_1 (of_decide_eq_true (by first | (with_reducible assumption) | assumption)) (of_decide_eq_true (by first | (with_reducible assumption) | assumption)) HC0.out; have HR310 := Aside0.mk (Kd.C_of_reads (h1 := fun _ => rfl) (hA12 _ (Kd.reads_of_C HR0.out))); have HC310 := Aside0.mk hC12; clear hA12 hC12 hi012 hsz12) | ((with_reducible refine gate_builtin (b := .append) (xs := #[.tmp 18, .tmp 21]) rfl ?_); at_builtin; refine Kd.R_append_rows (Kd.int .i64) (w0 := w) w.heap.size rfl (.tmp 18) (.tmp 21) 24 3 (.int .i64 0) 8 rfl Tryz.underlying24 info3 rfl (by decide) (by omega) v308 y307 (l0.take (x3_1 : Int).toNat) _ _ _ (fun _ => True) (fun _ => False) rfl rfl ?aO ?aR (fun _ _ h => h) (fun _ h => h.elim) ?aF ?aB ?aS ?aL ?_; (case aR => first | (refine Eq.mp (congrArg (fun m_ => ReadsRow _ _ _ _ m_ _) (show (l0.take (x3_1 : Int).toNat).length = x3_1.toNat from (by rw [List.length_take]; have h_ : (x3_1 : Int) ≤ (l0.length : Int) := of_decide_eq_true (by first | (with_reducible assumption) | assumption); omega))) ?_; repeat (first | exact (Kd.C_below HR310.out HB.out) | (with_reducible refine Kd.C_alloc ?_ _) | (with_reducible refine Kd.C_drewN ?_ _) | (with_reducible refine Kd.C_drew ?_))) | (repeat (first | exact (Kd.C_below HR310.out HB.out) | (with_reducible refine Kd.C_alloc ?_ _) | (with_reducible refine Kd.C_drewN ?_ _) | (with_reducible refine Kd.C_drew ?_)))); (case aB => exact (by repeat (first | (with_reducible first | exact HB.out | apply below_alloc | apply pw_below_drewN | apply below_drew1) | exact HB.out))); (case aF => exact (fun _ _ => trivial)); (case aO => exact (by (with_reducible repeat (first | apply Kd.R_alloc | apply Kd.R_drewN | apply Kd.R_drew)); exact HO309.out)); (case aS => exact (below_size (by repeat (first | (with_reducible first | exact HB.out | apply below_alloc | apply pw_below_drewN | apply below_drew1) | exact HB.out)))); (case aL => have := LMc9.out; have hlx_ := (show (l0.take (x3_1 : Int).toNat).length = x3_1.toNat from (by rw [List.length_take]; have h_ : (x3_1 : Int) ≤ (l0.length : Int) := of_decide_eq_true (by first | (with_reducible assumption) | assumption); omega)); omega); intro v312 w13 ho hb hg hat; rw [← Ny311.out] at ho; have n0_ := Aside0.mk (hb); have n1_ := Aside0.mk (ho); clear HB; clear HO309; have HB := n0_; have HO313 := n1_; clear n0_ n1_; clear ho hb hg hat))
          go_ret
          exact ⟨_, by first | rfl | (simp [errW_none, errW_some] <;> rfl) | (simp only [← hji3]; first | rfl | (simp [errW_none, errW_some] <;> rfl)) | (simp [*, errW_none, errW_some] <;> rfl), by (with_reducible repeat (first | apply Kd.R_alloc | apply Kd.R_drewN | apply Kd.R_drew)); exact HO313.out, by repeat (first | (with_reducible first | exact HB.out | apply below_alloc | apply pw_below_drewN | apply below_drew1) | exact HB.out)⟩
         ·
          rw [if_neg c9] at H
          exact absurd H (by simp)
        ·
         rw [if_neg c8] at H
         exact absurd H (by simp)
       ·
        rw [if_neg c7] at H
        exact absurd H (by simp)
     ·
      rw [if_neg c5] at H
      exact absurd H (by simp)
    ·
     rw [if_neg c4] at H
     exact absurd H (by simp)
   ·
    rw [if_neg c2] at H
    have c2b0 : decide (0 < x3_1) = false := decide_eq_false c2
    clear c2
    obtain ⟨y314, hy314⟩ : ∃ y_ : List Int, y_ = (([] : List Int)) := ⟨_, rfl⟩
    replace H : (if 0 ≤ x3_1 then (if x3_1 ≤ (l0.length : Int) then (if y314.length + (l0.take (x3_1 : Int).toNat).length < 17592186044416 then (some (y314 ++ (l0.take (x3_1 : Int).toNat))) else (none)) else (none)) else (none)) = some r := by first | (rw [hy314]; with_reducible exact H) | (have H2_ := (Option.bind_some _ _).symm.trans H; rw [hy314]; with_reducible exact H2_) | (have H2_ := (Option.bind_some _ _).symm.trans H; with_reducible exact H2_) | with_reducible exact H | (rw [hy314]; exact H) | exact H
    have Ny314 := Aside0.mk hy314
    clear hy314
    by_cases c14 : 0 ≤ x3_1
    ·
     rw [if_pos c14] at H
     have c14b0 := eq_true c14
     have c14b1 : decide (0 ≤ x3_1) = true := decide_eq_true c14
     clear c14
     by_cases c15 : x3_1 ≤ (l0.length : Int)
     ·
      rw [if_pos c15] at H
      have c15b0 := eq_true c15
      have c15b1 : decide (x3_1 ≤ (l0.length : Int)) = true := decide_eq_true c15
      clear c15
      by_cases c16 : y314.length + (l0.take (x3_1 : Int).toNat).length < 17592186044416
      ·
       rw [if_pos c16] at H
       have LMc16 := Aside0.mk c16
       clear c16
       obtain ⟨y318, hy318⟩ : ∃ y_ : List Int, y_ = (y314 ++ (l0.take (x3_1 : Int).toNat)) := ⟨_, rfl⟩
       replace H : (some y318) = some r := by first | (rw [hy318]; with_reducible exact H) | (have H2_ := (Option.bind_some _ _).symm.trans H; rw [hy318]; with_reducible exact H2_) | (have H2_ := (Option.bind_some _ _).symm.trans H; with_reducible exact H2_) | with_reducible exact H | (rw [hy318]; exact H) | exact H
       have Ny318 := Aside0.mk hy318
       clear hy318
       obtain rfl := Option.some.inj H
       go_wp2_with (first | ((with_reducible refine gate_dst (N := 18) rfl ?_); refine Kd.R_lit (Kd.int .i64) _ 3 ?hg (N := 18) ?hd (xs := ([] : List Int)) (inner := []) (ok := fun _ => True) (okp := fun _ => True) ?hr ?hp (fun _ hk => hk) trivial (Below.refl _ _) (Nat.le_refl _) (by simp) ?_; (case hd => rfl); (case hg => rfl); (case hr => first | (go_simp; done) | (go_simp; rfl)); (case hp => exact (Reps.none _ _)); intro v315 w17 ho18 hb hg_ hnew_; clear hg_ hnew_; (first | rw [← Ny314.out] at ho18 | (simp only [Int.reduceToNat] at ho18; rw [← Ny314.out] at ho18)); have n0_ := Aside0.mk (Kd.R_lower ho18 (below_size (by repeat (first | (with_reducible first | exact HB.out | apply below_alloc | apply pw_below_drewN | apply below_drew1) | exact HB.out)))); have n1_ := Aside0.mk (below_step (by repeat (first | (with_reducible first | exact HB.out | apply below_alloc | apply pw_below_drewN | apply below_drew1) | exact HB.out)) hb); clear HB; have HO316 := n0_; have HB := n1_; clear n0_ n1_; clear hb ho18; obtain ⟨i019, hi019, _, hsz19, _⟩ := info_parts info3; obtain ⟨hcut19, hA19, hC19⟩ := print_take_of (P := Tryz.prog) (Value.int .i64) 0 24 3 .i64 Tryz.underlying24 hi019 hsz19 A0 c0 l0 x3_1 (of_decide_eq_true (by first | (with_reducible assumption) | assumption)) (of_decide_eq_true (by first | (with_reducible assumption) | assumption)) HC0.out; have HR317 := Aside0.mk (Kd.C_of_reads (h1 := fun _ => rfl) (hA19 _ (Kd.reads_of_C HR0.out))); have HC317 := Aside0.mk hC19; clear hA19 hC19 hi019 hsz19) | ((with_reducible refine gate_builtin (b := .append) (xs := #[.tmp 18, .tmp 21]) rfl ?_); at_builtin; refine Kd.R_append_rows (Kd.int .i64) (w0 := w) w.heap.size rfl (.tmp 18) (.tmp 21) 24 3 (.int .i64 0) 8 rfl Tryz.underlying24 info3 rfl (by decide) (by omega) v315 y314 (l0.take (x3_1 : Int).toNat) _ _ _ (fun _ => True) (fun _ => False) rfl rfl ?aO ?aR (fun _ _ h => h) (fun _ h => h.elim) ?aF ?aB ?aS ?aL ?_; (case aR => first | (refine Eq.mp (congrArg (fun m_ => ReadsRow _ _ _ _ m_ _) (show (l0.take (x3_1 : Int).toNat).length = x3_1.toNat from (by rw [List.length_take]; have h_ : (x3_1 : Int) ≤ (l0.length : Int) := of_decide_eq_true (by first | (with_reducible assumption) | assumption); omega))) ?_; repeat (first | exact (Kd.C_below HR317.out HB.out) | (with_reducible refine Kd.C_alloc ?_ _) | (with_reducible refine Kd.C_drewN ?_ _) | (with_reducible refine Kd.C_drew ?_))) | (repeat (first | exact (Kd.C_below HR317.out HB.out) | (with_reducible refine Kd.C_alloc ?_ _) | (with_reducible refine Kd.C_drewN ?_ _) | (with_reducible refine Kd.C_drew ?_)))); (case aB => exact (by repeat (first | (with_reducible first | exact HB.out | apply below_alloc | apply pw_below_drewN | apply below_drew1) | exact HB.out))); (case aF => exact (fun _ _ => trivial)); (case aO => exact (by (with_reducible repeat (first | apply Kd.R_alloc | apply Kd.R_drewN | apply Kd.R_drew)); exact HO316.out)); (case aS => exact (below_size (by repeat (first | (with_reducible first | exact HB.out | apply below_alloc | apply pw_below_drewN | apply below_drew1) | exact HB.out)))); (case aL => have := LMc16.out; have hlx_ := (show (l0.take (x3_1 : Int).toNat).length = x3_1.toNat from (by rw [List.length_take]; have h_ : (x3_1 : Int) ≤ (l0.length : Int) := of_decide_eq_true (by first | (with_reducible assumption) | assumption); omega)); omega); intro v319 w20 ho hb hg hat; rw [← Ny318.out] at ho; have n0_ := Aside0.mk (hb); have n1_ := Aside0.mk (ho); clear HB; clear HO316; have HB := n0_; have HO320 := n1_; clear n0_ n1_; clear ho hb hg hat))
       go_ret
       exact ⟨_, by first | rfl | (simp [errW_none, errW_some] <;> rfl) | (simp [*, errW_none, errW_some] <;> rfl), by (with_reducible repeat (first | apply Kd.R_alloc | apply Kd.R_drewN | apply Kd.R_drew)); exact HO320.out, by repeat (first | (with_reducible first | exact HB.out | apply below_alloc | apply pw_below_drewN | apply below_drew1) | exact HB.out)⟩
      ·
       rw [if_neg c16] at H
       exact absurd H (by simp)
     ·
      rw [if_neg c15] at H
      exact absurd H (by simp)
    ·
     rw [if_neg c14] at H
     exact absurd H (by simp)
mutual
def spec_l7Count.l0 : Nat → List Int → List Int → Int → Int → List (List Int) → Int → Option (Int)
  | 0, _, _, _, _, _, _ => none
  | k + 1, x1, x2, x3, x9, x10, x11 => if x11 < (x10.length : Int) then (if 0 ≤ x11 then ((spec_l7Trim.f k (rd_L3 x10 x11)).bind fun t329 => ((spec_l7Count.f k t329 x1 x2 (wrap64 (x3 + 1))).bind fun t332 => (spec_l7Count.l0 k x1 x2 x3 (wrap64 (x9 + t332)) x10 (wrap64 (x11 + 1))))) else (none)) else (some x9)
def spec_l7Count.f : Nat → List Int → List Int → List Int → Int → Option (Int)
  | 0, _, _, _, _ => none
  | k + 1, l0, l1, l2, a3 => if a3 = (l2.length : Int) then ((spec_l2Size.f k l0).bind fun t321 => ((spec_l2Size.f k l1).bind fun t322 => ((spec_l1Bit.f (t321 == t322)).bind fun t323 => (some t323)))) else (if 0 ≤ a3 then (if a3 < (l2.length : Int) then ((spec_l7Strips.f k l0 l1 (rd l2 a3) 0).bind fun t325 => (spec_l7Count.l0 k l1 l2 a3 0 t325 0)) else (none)) else (none))
end
set_option maxHeartbeats 8000000 in
set_option maxRecDepth 100000 in
theorem spec_l7Count.calls (k : Nat) : ∀ (A0 : Option Addr) (c0 : Nat) (l0 : List Int) (A1 : Option Addr) (c1 : Nat) (l1 : List Int) (A2 : Option Addr) (c2 : Nat) (l2 : List Int) (a3 : Int) (r : Int) (w : World) (hr0 : Kd.C (Kd.int .i64) w A0 l0.length l0) (hc0 : l0.length ≤ c0) (hr1 : Kd.C (Kd.int .i64) w A1 l1.length l1) (hc1 : l1.length ≤ c1) (hr2 : Kd.C (Kd.int .i64) w A2 l2.length l2) (hc2 : l2.length ≤ c2) (h : spec_l7Count.f k l0 l1 l2 a3 = some r),
  Calls Tryz.prog 71 #[.slice A0 l0.length c0, .slice A1 l1.length c1, .slice A2 l2.length c2, .int .i64 a3] w fun e w' => e = .returned (.int .i64 r) ∧ Below w.heap.size w w' := by
 induction k using Nat.strongRecOn with
 | _ k ih =>
 intro A0 c0 l0 A1 c1 l1 A2 c2 l2 a3 r w hr0 hc0 hr1 hc1 hr2 hc2 h
 cases k with
 | zero => exact absurd h (by simp [spec_l7Count.f])
 | succ k =>
 simp only [spec_l7Count.f] at h
 have HR0 := Aside0.mk hr0
 have HC0 := Aside0.mk hc0
 clear hr0 hc0
 have HR1 := Aside0.mk hr1
 have HC1 := Aside0.mk hc1
 clear hr1 hc1
 have HR2 := Aside0.mk hr2
 have HC2 := Aside0.mk hc2
 clear hr2 hc2
 have HB := Aside0.mk (Below.refl w.heap.size w)
 have H : (if a3 = (l2.length : Int) then ((spec_l2Size.f k l0).bind fun t321 => ((spec_l2Size.f k l1).bind fun t322 => ((spec_l1Bit.f (t321 == t322)).bind fun t323 => (some t323)))) else (if 0 ≤ a3 then (if a3 < (l2.length : Int) then ((spec_l7Strips.f k l0 l1 (rd l2 a3) 0).bind fun t325 => (spec_l7Count.l0 k l1 l2 a3 0 t325 0)) else (none)) else (none))) = some r := h
 clear h
 by_cases c5 : a3 = (l2.length : Int)
 ·
  rw [if_pos c5] at H
  have c5b0 : (a3 == (l2.length : Int)) = true := beq_iff_eq.mpr c5
  have c5b1 : (a3 != (l2.length : Int)) = false := bne_eq_false_iff_eq.mpr c5
  clear c5
  replace H := Option.bind_eq_some_iff.mp H
  obtain ⟨t321, A60, H⟩ := H
  replace H : ((spec_l2Size.f k l1).bind fun t322 => ((spec_l1Bit.f (t321 == t322)).bind fun t323 => (some t323))) = some r := H
  have A6 := Aside0.mk A60
  clear A60
  replace H := Option.bind_eq_some_iff.mp H
  obtain ⟨t322, A70, H⟩ := H
  replace H : ((spec_l1Bit.f (t321 == t322)).bind fun t323 => (some t323)) = some r := H
  have A7 := Aside0.mk A70
  clear A70
  replace H := Option.bind_eq_some_iff.mp H
  obtain ⟨t323, A80, H⟩ := H
  replace H : (some t323) = some r := H
  have A8 := Aside0.mk A80
  clear A80
  obtain rfl := Option.some.inj H
  go_enter Tryz.func71, Tryz.ntmps71
  go_wp2_with (first | ((with_reducible refine gate_callee (f := 55) rfl ?_); refine goesL_ (some 17) rfl rfl Tryz.func55 (by kernel_rfl) rfl #[.slice A0 l0.length c0] rfl (by (try simp only [List.map_toArray, List.map_cons, List.map_nil]); first | done | rfl | (simp only [List.length_drop, List.length_take]; rfl)) ?_; (with_reducible refine (spec_l2Size.calls k _ _ l0 t321 _ ?side1 ?side2 A6.out).mono ?_); (case side1 => repeat (first | exact HR0.out | (with_reducible refine Kd.C_alloc ?_ _) | (with_reducible refine Kd.C_drewN ?_ _) | (with_reducible refine Kd.C_drew ?_))); (case side2 => exact HC0.out); rintro e w' ⟨rfl, ⟨nd, rfl⟩⟩; refine ⟨_, rfl, ?_⟩) | ((with_reducible refine gate_callee (f := 55) rfl ?_); refine goesL_ (some 19) rfl rfl Tryz.func55 (by kernel_rfl) rfl #[.slice A1 l1.length c1] rfl (by (try simp only [List.map_toArray, List.map_cons, List.map_nil]); first | done | rfl | (simp only [List.length_drop, List.length_take]; rfl)) ?_; (with_reducible refine (spec_l2Size.calls k _ _ l1 t322 _ ?side1 ?side2 A7.out).mono ?_); (case side1 => repeat (first | exact HR1.out | (with_reducible refine Kd.C_alloc ?_ _) | (with_reducible refine Kd.C_drewN ?_ _) | (with_reducible refine Kd.C_drew ?_))); (case side2 => exact HC1.out); rintro e w' ⟨rfl, ⟨nd, rfl⟩⟩; refine ⟨_, rfl, ?_⟩) | ((with_reducible refine gate_callee (f := 56) rfl ?_); refine goesL_ (some 21) rfl rfl Tryz.func56 (by kernel_rfl) rfl #[.bool (t321 == t322)] rfl (by (try simp only [List.map_toArray, List.map_cons, List.map_nil]); first | done | rfl | (simp only [List.length_drop, List.length_take]; rfl)) ?_; (with_reducible refine (spec_l1Bit.calls (t321 == t322) t323 _ A8.out).mono ?_); rintro e w' ⟨rfl, ⟨nd, rfl⟩⟩; refine ⟨_, rfl, ?_⟩))
  go_ret
  exact ⟨by first | rfl | (simp [errW_none, errW_some] <;> rfl) | (simp [*, errW_none, errW_some] <;> rfl), by repeat (first | (with_reducible first | exact HB.out | apply below_alloc | apply pw_below_drewN | apply below_drew1) | exact HB.out)⟩
 ·
  rw [if_neg c5] at H
  have c5b0 : (a3 == (l2.length : Int)) = false := beq_eq_false_iff_ne.mpr c5
  have c5b1 : (a3 != (l2.length : Int)) = true := bne_iff_ne.mpr c5
  by_cases c9 : 0 ≤ a3
  ·
   rw [if_pos c9] at H
   have c9b0 : decide (0 ≤ a3) = true := decide_eq_true c9
   clear c9
   by_cases c10 : a3 < (l2.length : Int)
   ·
    rw [if_pos c10] at H
    have c10b0 : decide (a3 < (l2.length : Int)) = true := decide_eq_true c10
    clear c10
    replace H := Option.bind_eq_some_iff.mp H
    obtain ⟨t325, A110, H⟩ := H
    replace H : (spec_l7Count.l0 k l1 l2 a3 0 t325 0) = some r := H
    have A11 := Aside0.mk A110
    clear A110
    have H' := Aside0.mk H
    clear H
    have p324 : 0 ≤ (a3 : Int) := of_decide_eq_true (by first | (with_reducible assumption) | assumption)
    have q324 : a3 < (l2.length : Int) := of_decide_eq_true (by first | (with_reducible assumption) | assumption)
    obtain ⟨ad324, e324, hx324_0⟩ := Kd.at_int HR2.out a3 p324 q324
    cases e324
    replace p324 := eq_true p324
    replace q324 := eq_true q324
    go_enter Tryz.func71, Tryz.ntmps71
    go_wp2_with (first | ((with_reducible refine gate_callee (f := 120) rfl ?_); refine goesL_ (some 28) rfl rfl Tryz.func120 (by kernel_rfl) rfl #[.slice A0 l0.length c0, .slice A1 l1.length c1, .int .i64 (rd l2 a3), .int .i64 0] rfl (by (try simp only [List.map_toArray, List.map_cons, List.map_nil]); first | done | rfl | (simp only [List.length_drop, List.length_take]; rfl)) ?_; (with_reducible refine (spec_l7Strips.calls k _ _ l0 _ _ l1 (rd l2 a3) 0 t325 _ ?side1 ?side2 ?side3 ?side4 A11.out).mono ?_); (case side1 => repeat (first | exact HR0.out | (with_reducible refine Kd.C_alloc ?_ _) | (with_reducible refine Kd.C_drewN ?_ _) | (with_reducible refine Kd.C_drew ?_))); (case side2 => exact HC0.out); (case side3 => repeat (first | exact HR1.out | (with_reducible refine Kd.C_alloc ?_ _) | (with_reducible refine Kd.C_drewN ?_ _) | (with_reducible refine Kd.C_drew ?_))); (case side4 => exact HC1.out); rintro e w12 ⟨v326, rfl, ho0, hb⟩; refine ⟨_, rfl, ?_⟩; have n0_ := Aside0.mk (Kd.S_lower ho0 (below_size (by repeat (first | (with_reducible first | exact HB.out | apply below_alloc | apply pw_below_drewN | apply below_drew1) | exact HB.out)))); have n1_ := Aside0.mk (below_step (by repeat (first | (with_reducible first | exact HB.out | apply below_alloc | apply pw_below_drewN | apply below_drew1) | exact HB.out)) hb); clear HB; have HO327 := n0_; have HB := n1_; clear n0_ n1_; (try clear hb); (try clear hb2); (try clear hk); (try clear hi); (try clear ho0)))
    go_loopg [9, 11] k (fun kq v9 v11 w' => ∃ (x9_1 : Int) (x11_1 : Int), v9 = .int .i64 x9_1 ∧ v11 = .int .i64 x11_1 ∧ Aside0 (spec_l7Count.l0 kq l1 l2 a3 x9_1 t325 x11_1 = some r) ∧ Aside0 (kq ≤ k) ∧ Aside0 (Kd.S (Kd.slice 3 (Kd.int .i64)) 24 w' w.heap.size (fun _ => True) v326 t325) ∧ Aside0 (Below w.heap.size w w'))
    case atStart => exact ⟨(0), (0), (by first | rfl | (simp; done) | (simp [*]; done)), (by first | rfl | (simp; done) | (simp [*]; done)), H', ⟨Nat.le_refl _⟩, ⟨by (with_reducible repeat (first | apply Kd.S_alloc | apply Kd.S_drewN | apply Kd.S_drew)); exact HO327.out⟩, ⟨by repeat (first | (with_reducible first | exact HB.out | apply below_alloc | apply pw_below_drewN | apply below_drew1) | exact HB.out)⟩⟩
    case round =>
     clear H'
     try clear c1
     try clear c2
     try clear p2
     try clear p3
     try clear q3
     try clear hx3
     try clear c5
     try clear c5b0
     try clear c5b1
     try clear c7
     try clear c9
     try clear c9b0
     try clear c10
     try clear c10b0
     try clear c12
     try clear hx324_0
     try clear p324
     try clear q324
     obtain ⟨x9_1, x11_1, rfl, rfl, HA, HK1, HO_10, HB⟩ := hrel
     cases gk with
     | zero => exact absurd HA.out (by simp [spec_l7Count.l0])
     | succ k1 =>
      have H := HA.out
      clear HA
      simp only [spec_l7Count.l0] at H
      by_cases c13 : x11_1 < (t325.length : Int)
      ·
       rw [if_pos c13] at H
       have c13b0 : decide (x11_1 < (t325.length : Int)) = true := decide_eq_true c13
       clear c13
       by_cases c14 : 0 ≤ x11_1
       ·
        rw [if_pos c14] at H
        have c14b0 : decide (0 ≤ x11_1) = true := decide_eq_true c14
        clear c14
        replace H := Option.bind_eq_some_iff.mp H
        obtain ⟨t329, A150, H⟩ := H
        replace H : ((spec_l7Count.f k1 t329 l1 l2 (wrap64 (a3 + 1))).bind fun t332 => (spec_l7Count.l0 k1 l1 l2 a3 (wrap64 (x9_1 + t332)) t325 (wrap64 (x11_1 + 1)))) = some r := H
        have A15 := Aside0.mk A150
        clear A150
        replace H := Option.bind_eq_some_iff.mp H
        obtain ⟨t332, A160, H⟩ := H
        replace H : (spec_l7Count.l0 k1 l1 l2 a3 (wrap64 (x9_1 + t332)) t325 (wrap64 (x11_1 + 1))) = some r := H
        have A16 := Aside0.mk A160
        clear A160
        have H' := Aside0.mk H
        clear H
        obtain ⟨Ao17, co17, eo17⟩ := Kd.S_slice HO_10.out
        subst eo17
        have p328 : 0 ≤ (x11_1 : Int) := of_decide_eq_true (by first | (with_reducible assumption) | assumption)
        have q328 : x11_1 < (t325.length : Int) := of_decide_eq_true (by first | (with_reducible assumption) | assumption)
        obtain ⟨ad328, A328_0, c328_0, e328, hx328_0, hl328_0, hi328_0⟩ := at_L3 (Kd.S_reads' HO_10.out).2.2 x11_1 p328 q328
        cases e328
        obtain ⟨ce328, hce328, hMe328, hcc328⟩ := Kd.S_get HO_10.out [] x11_1 p328 (by first | exact q328 | exact of_decide_eq_true (by first | (with_reducible assumption) | assumption) | (have e_ := (Kd.S_reads' HO_10.out).1; omega))
        obtain ⟨ve328_0, rfl, ge328_0⟩ := hMe328
        have hv328_0 := hcc328 0 _ rfl
        rw [Nat.add_zero, show ((Kd.slice 3 (Kd.int .i64))).sz = 1 from rfl, Nat.mul_one] at hv328_0
        replace hv328_0 := Option.some.inj (hv328_0.symm.trans hx328_0)
        rw [hv328_0] at ge328_0
        have HL328_0 := Aside0.mk (show Kd.R (Kd.int .i64) 3 _ _ _ _ (rd_L3 t325 x11_1) from ge328_0)
        clear hv328_0 ge328_0
        clear hcc328 hce328
        have HR328_0 := Aside0.mk hi328_0
        have HC328_0 := Aside0.mk hl328_0
        clear hi328_0 hl328_0
        replace p328 := eq_true p328
        replace q328 := eq_true q328
        go_wp2_with (first | ((with_reducible refine gate_callee (f := 121) rfl ?_); refine goesL_ (some 40) rfl rfl Tryz.func121 (by kernel_rfl) rfl #[.slice A328_0 (rd_L3 t325 x11_1).length c328_0] rfl (by (try simp only [List.map_toArray, List.map_cons, List.map_nil]); first | done | rfl | (simp only [List.length_drop, List.length_take]; rfl)) ?_; (with_reducible refine (spec_l7Trim.calls k1 _ _ (rd_L3 t325 x11_1) t329 _ ?side1 ?side2 A15.out).mono ?_); (case side1 => repeat (first | exact (by repeat (first | (with_reducible exact HR328_0.out) | (with_reducible refine Kd.C_alloc ?_ _) | (with_reducible refine Kd.C_drewN ?_ _) | (with_reducible refine Kd.C_drew ?_) | exact HR328_0.out)) | (with_reducible refine Kd.C_alloc ?_ _) | (with_reducible refine Kd.C_drewN ?_ _) | (with_reducible refine Kd.C_drew ?_))); (case side2 => exact HC328_0.out); rintro e w18 ⟨v330, rfl, ho0, hb⟩; refine ⟨_, rfl, ?_⟩; have n0_ := Aside0.mk (Kd.S_elder' (by (with_reducible repeat (first | apply Kd.S_alloc | apply Kd.S_drewN | apply Kd.S_drew)); exact HO_10.out) (Kd.R_base ho0) hb); have n1_ := Aside0.mk (Kd.R_elder' (by (with_reducible repeat (first | apply Kd.R_alloc | apply Kd.R_drewN | apply Kd.R_drew)); exact HL328_0.out) (Kd.R_base ho0) hb); have n2_ := Aside0.mk (Kd.R_lower (Kd.R_new' ho0 (Kd.R_lt (by (with_reducible repeat (first | apply Kd.R_alloc | apply Kd.R_drewN | apply Kd.R_drew)); exact HL328_0.out))) (below_size (by repeat (first | (with_reducible first | exact HB.out | apply below_alloc | apply pw_below_drewN | apply below_drew1) | exact HB.out)))); have n3_ := Aside0.mk (Kd.C_below (by repeat (first | (with_reducible exact HR328_0.out) | (with_reducible refine Kd.C_alloc ?_ _) | (with_reducible refine Kd.C_drewN ?_ _) | (with_reducible refine Kd.C_drew ?_) | exact HR328_0.out)) hb); have n4_ := Aside0.mk (below_step (by repeat (first | (with_reducible first | exact HB.out | apply below_alloc | apply pw_below_drewN | apply below_drew1) | exact HB.out)) hb); clear HO_10; clear HL328_0; clear HR328_0; clear HB; have HO_10 := n0_; have HL328_0 := n1_; have HO331 := n2_; have HR328_0 := n3_; have HB := n4_; clear n0_ n1_ n2_ n3_ n4_; (try clear hb); (try clear hb2); (try clear hk); (try clear hi); (try clear ho0); obtain ⟨Ao19, co19, eo19⟩ := Kd.R_slice HO331.out; subst eo19) | ((with_reducible refine gate_callee (f := 71) rfl ?_); refine goesL_ (some 45) rfl rfl Tryz.func71 (by kernel_rfl) rfl #[.slice Ao19 t329.length co19, .slice A1 l1.length c1, .slice (some ad324) l2.length c2, .int .i64 (wrap64 (a3 + 1))] rfl (by (try simp only [List.map_toArray, List.map_cons, List.map_nil]); first | done | rfl | (simp only [List.length_drop, List.length_take]; rfl)) ?_; (with_reducible refine (ih k1 (by have := HK1.out; omega) _ _ t329 _ _ l1 _ _ l2 (wrap64 (a3 + 1)) t332 _ ?side1 ?side2 ?side3 ?side4 ?side5 ?side6 A16.out).mono ?_); (case side1 => repeat (first | exact (Kd.R_reads' HO331.out).2.2 | (with_reducible refine Kd.C_alloc ?_ _) | (with_reducible refine Kd.C_drewN ?_ _) | (with_reducible refine Kd.C_drew ?_))); (case side2 => exact (Kd.R_reads' HO331.out).2.1); (case side3 => repeat (first | exact (Kd.C_below HR1.out HB.out) | (with_reducible refine Kd.C_alloc ?_ _) | (with_reducible refine Kd.C_drewN ?_ _) | (with_reducible refine Kd.C_drew ?_))); (case side4 => exact HC1.out); (case side5 => repeat (first | exact (Kd.C_below HR2.out HB.out) | (with_reducible refine Kd.C_alloc ?_ _) | (with_reducible refine Kd.C_drewN ?_ _) | (with_reducible refine Kd.C_drew ?_))); (case side6 => exact HC2.out); rintro e w20 ⟨rfl, hb⟩; refine ⟨_, rfl, ?_⟩; have n0_ := Aside0.mk (Kd.S_below (by (with_reducible repeat (first | apply Kd.S_alloc | apply Kd.S_drewN | apply Kd.S_drew)); exact HO_10.out) hb); have n1_ := Aside0.mk (Kd.R_below (by (with_reducible repeat (first | apply Kd.R_alloc | apply Kd.R_drewN | apply Kd.R_drew)); exact HL328_0.out) hb); have n2_ := Aside0.mk (Kd.R_below (by (with_reducible repeat (first | apply Kd.R_alloc | apply Kd.R_drewN | apply Kd.R_drew)); exact HO331.out) hb); have n3_ := Aside0.mk (Kd.C_below (by repeat (first | (with_reducible exact HR328_0.out) | (with_reducible refine Kd.C_alloc ?_ _) | (with_reducible refine Kd.C_drewN ?_ _) | (with_reducible refine Kd.C_drew ?_) | exact HR328_0.out)) hb); have n4_ := Aside0.mk (below_step (by repeat (first | (with_reducible first | exact HB.out | apply below_alloc | apply pw_below_drewN | apply below_drew1) | exact HB.out)) hb); clear HO_10; clear HL328_0; clear HO331; clear HR328_0; clear HB; have HO_10 := n0_; have HL328_0 := n1_; have HO331 := n2_; have HR328_0 := n3_; have HB := n4_; clear n0_ n1_ n2_ n3_ n4_; (try clear hb); (try clear hb2); (try clear hk); (try clear hi)))
        go_roundg k1
        case measure => have := HK1.out; omega
        case rel => exact ⟨(wrap64 (x9_1 + t332)), (wrap64 (x11_1 + 1)), (by first | rfl | (simp; done) | (simp [*]; done)), (by first | rfl | (simp; done) | (simp [*]; done)), H', ⟨by have := HK1.out; omega⟩, ⟨by (with_reducible repeat (first | apply Kd.S_alloc | apply Kd.S_drewN | apply Kd.S_drew)); exact Kd.S_mono HO_10.out (fun _ hk => trivial)⟩, ⟨by repeat (first | (with_reducible first | exact HB.out | apply below_alloc | apply pw_below_drewN | apply below_drew1) | exact HB.out)⟩⟩
       ·
        rw [if_neg c14] at H
        exact absurd H (by simp)
      ·
       rw [if_neg c13] at H
       have c13b0 : decide (x11_1 < (t325.length : Int)) = false := decide_eq_false c13
       clear c13
       obtain rfl := Option.some.inj H
       obtain ⟨Ao21, co21, eo21⟩ := Kd.S_slice HO_10.out
       subst eo21
       go_wp2
       go_ret
       exact ⟨by first | rfl | (simp [errW_none, errW_some] <;> rfl) | (simp [*, errW_none, errW_some] <;> rfl), by repeat (first | (with_reducible first | exact HB.out | apply below_alloc | apply pw_below_drewN | apply below_drew1) | exact HB.out)⟩
   ·
    rw [if_neg c10] at H
    exact absurd H (by simp)
  ·
   rw [if_neg c9] at H
   exact absurd H (by simp)
end Go.Proofs.YtppkfgcnmaifmaaGreatDoor.Hb
