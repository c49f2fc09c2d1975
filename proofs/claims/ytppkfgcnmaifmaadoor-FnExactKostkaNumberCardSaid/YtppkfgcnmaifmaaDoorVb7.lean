/- What the proof of the law leans on, part 7 of 7: contracts of the functions that it reaches, the words they are told in (laid by the kit's print.sh, here only as far as they are used), and what they come to. -/
import Derived.Test.YtppkfgcnmaifmaaDoorProg
import Derived.Below
import Derived.Deep.Draws
import Derived.Deep.AppendLies
import Derived.Maps.AppendAt
import Derived.OwnWalk
import Derived.Laws.BytesArg
import Derived.Laws.MakeOwn
import Derived.Laws.OwnMore
import Derived.Deep.OwnRows
import Derived.Tactics
import Derived.Lib.ConvBytes
import Derived.Laws.Slices
import Derived.WalkKit
import Derived.KernelRfl
import Derived.RowKit3
import Derived.Deep.LoopGhost
import Derived.Deep.QuietTactic
import Derived.BigQuiet
import Derived.WideLaws
import Derived.Deep.DeepCutAuto
import Derived.Deep.CutBlock
import Derived.Deep.RegionHeld3
import Derived.Laws.Rows
import Derived.Lib.AppendStr
import Derived.ArgAppend
import Derived.Laws.IdiomCopy
import Derived.OrdersHeld
import Derived.Laws.BitsLemmas
import Derived.RowKit
import Derived.Test.YtppkfgcnmaifmaaDoorVb6
namespace Go.Proofs.YtppkfgcnmaifmaaDoor.Hb
open Go.RowKit Go.Proofs.YtppkfgcnmaifmaaDoorW.PrintWords Go.Proofs.YtppkfgcnmaifmaaDoorW.PrintLast Go.Proofs.YtppkfgcnmaifmaaDoorW.PrintMore
attribute [local go_sem] max2_int min2_int max_two min_two max_three min_three max_four min_four
set_option linter.unusedVariables false
set_option linter.unusedSimpArgs false
open Pu
def okW (l : List Int) : Bool := decide (l.length ≤ 9) && !(l.any impl_isWeight.bad)
theorem okW_iff (l : List Int) : okW l = true ↔ l.length ≤ 9 ∧ ∀ x ∈ l, 0 ≤ x ∧ x ≤ 9 := by
  unfold okW impl_isWeight.bad
  rw [Bool.and_eq_true, decide_eq_true_eq, Bool.not_eq_true', ← Bool.not_eq_true, List.any_eq_true]
  refine and_congr_right fun _ => ⟨fun h x hx => ?_, fun h => ?_⟩
  · by_cases h1 : 0 ≤ x ∧ x ≤ 9
    · exact h1
    · exact absurd ⟨x, hx, by rw [Bool.not_eq_true', Bool.and_eq_false_iff, decide_eq_false_iff_not, decide_eq_false_iff_not]; omega⟩ h
  · rintro ⟨x, hx, hb⟩
    have := h x hx
    rw [Bool.not_eq_true', Bool.and_eq_false_iff, decide_eq_false_iff_not, decide_eq_false_iff_not] at hb
    omega
theorem weight_l0 (l : List Int) (hl : l.length ≤ 10000000) : ∀ (rest pre : List Int), l = pre ++ rest → (∀ x ∈ pre, 0 ≤ x ∧ x ≤ 9) → Evs (fun f => spec_l7Weight.l0 f l (pre.length : Int)) (okW l)
  | [], pre, e, hp => by
    have h : ¬ (pre.length : Int) < (l.length : Int) := by rw [e]; simp
    refine Evs.succ ?_
    simp only [spec_l7Weight.l0, if_neg h]
    refine (Evs.pure _).same ?_
    by_cases h9 : l.length ≤ 9
    · rw [(okW_iff l).2 ⟨h9, fun x hx => hp x (by rw [e] at hx; simpa using hx)⟩]
      exact decide_eq_true (by omega)
    · unfold okW
      rw [decide_eq_false h9, Bool.false_and]
      exact decide_eq_false (by omega)
  | x :: rest, pre, e, hp => by
    have hlen : pre.length < l.length := by rw [e]; simp
    have h2 : (pre.length : Int) < (l.length : Int) := by omega
    have h3 : (0 : Int) ≤ (pre.length : Int) := by omega
    have hrd : rd l (pre.length : Int) = x := by rw [e, rd_mid]
    have e2 : wrap64 ((pre.length : Int) + 1) = ((pre ++ [x]).length : Int) := by rw [len_snoc]; exact w64 _ (by omega) (by omega)
    refine Evs.succ ?_
    simp only [spec_l7Weight.l0, if_pos h2, if_pos h3, hrd, in_eq, Option.bind_some]
    by_cases hx : 0 ≤ x ∧ x ≤ 9
    · simp only [decide_eq_true hx, if_true, e2]
      exact weight_l0 l hl rest (pre ++ [x]) (by rw [e]; simp) fun y hy => by
        rcases List.mem_append.1 hy with h | h
        · exact hp y h
        · obtain rfl := List.mem_singleton.1 h
          exact hx
    · simp only [decide_eq_false hx, Bool.false_eq_true, if_false]
      refine (Evs.pure _).same ?_
      cases hk : okW l with
      | false => rfl
      | true => exact absurd (((okW_iff l).1 hk).2 x (by rw [e]; simp)) hx
theorem weight_ev (l : List Int) (hl : l.length ≤ 10000000) : Evs (fun f => spec_l7Weight.f f l) (okW l) := by
  unfold spec_l7Weight.f
  exact weight_l0 l hl l [] rfl fun _ h => by cases h
theorem kcount_l0 {α : Type} (outer ws : List Int) (j : Nat) (hj : j ≤ 1000) (g tr : α → List Int) (v : α → Int) (hv : ∀ a, 0 ≤ v a ∧ v a ≤ 387420489) :
    ∀ (todo : List α) (pre : List (List Int)) (acc : Int), (∀ a ∈ todo, Evs (fun f => spec_l7Trim.f f (g a)) (tr a) ∧ Evs (fun f => spec_l7Count.f f (tr a) outer ws ((j + 1 : Nat) : Int)) (v a)) → 0 ≤ acc → acc + todo.length * 387420489 ≤ 900000000000000000 →
      pre.length + todo.length ≤ 5000000000 → Evs (fun f => spec_l7Count.l0 f outer ws (j : Int) acc (pre ++ todo.map g) (pre.length : Int)) (acc + (todo.map v).sum)
  | [], pre, acc, _, _, _, _ => by
    have h : ¬ (pre.length : Int) < ((pre ++ ([] : List α).map g).length : Int) := by simp
    refine Evs.succ ?_
    simp only [spec_l7Count.l0, if_neg h]
    exact (Evs.pure _).same (by simp)
  | a :: todo, pre, acc, hev, h0, hacc, hlen => by
    have hl : (pre ++ (a :: todo).map g).length = pre.length + todo.length + 1 := by simp; omega
    rw [List.length_cons] at hacc hlen
    have h : (pre.length : Int) < ((pre ++ (a :: todo).map g).length : Int) := by omega
    have h1 : (0 : Int) ≤ (pre.length : Int) := by omega
    have hva := hv a
    have e1 : wrap64 (acc + v a) = acc + v a := w64 _ (by omega) (by omega)
    have e2 : wrap64 ((pre.length : Int) + 1) = ((pre ++ [g a]).length : Int) := by rw [w64 _ (by omega) (by omega)]; simp
    have e3 : wrap64 ((j : Int) + 1) = ((j + 1 : Nat) : Int) := by rw [w64 _ (by omega) (by omega)]; omega
    obtain ⟨ht, hc⟩ := hev a (List.mem_cons_self ..)
    refine Evs.succ ?_
    rw [List.map_cons]
    rw [List.map_cons] at h
    simp only [spec_l7Count.l0, if_pos h, if_pos h1, rdL_mid, e3]
    refine ht.bind (hc.bind ?_)
    rw [e1, e2, snoc pre (g a) (todo.map g)]
    refine (kcount_l0 outer ws j hj g tr v hv todo (pre ++ [g a]) (acc + v a) (fun b hb => hev b (List.mem_cons_of_mem _ hb)) (by omega) (by omega) (by simp; omega)).same ?_
    rw [List.map_cons, List.sum_cons]
    omega
def kval (outer inner : List Int) (ws : List Int) (rows : List (List Int)) (k : Int) : Int := if Gr.room outer inner rows = ws.sum then ((Gr.fillL outer inner ws rows k).length : Int) else 0
theorem kval_le {outer inner ws : List Int} {rows : List (List Int)} {k : Int} (ho : Part outer) (hg : Gr.Good outer inner rows k) (hw : ∀ x ∈ ws, 0 ≤ x) : 0 ≤ kval outer inner ws rows k ∧ kval outer inner ws rows k ≤ 387420489 := by
  unfold kval
  split
  · rename_i h
    have h1 := (Gr.growL_perm ws rows k hg).length_eq
    have h2 := growL_small outer inner ho.len ws rows k
    have h3 := Gr.toNat_sum ws hw
    have h4 := ho.sum
    have h5 := sum_ge _ (Gr.ptn_part ho hg).pos
    have h6 : (ws.map Int.toNat).sum ≤ 9 := by
      unfold Gr.room at h
      generalize (Gr.ptn outer inner rows).sum = z at *
      generalize (Gr.ptn outer inner rows).length = y at *
      omega
    have h7 : 9 ^ (ws.map Int.toNat).sum ≤ 9 ^ 9 := Nat.pow_le_pow_right (by decide) h6
    have h8 : 9 ^ 9 = 387420489 := by decide
    omega
  · omega
theorem sum_ite_len {α : Type} (p : Prop) [Decidable p] (l : α → Nat) : ∀ xs : List α, (xs.map fun x => if p then (l x : Int) else 0).sum = if p then (((xs.map l).sum : Nat) : Int) else 0
  | [] => by simp
  | x :: xs => by
    rw [List.map_cons, List.sum_cons, List.map_cons, List.sum_cons, sum_ite_len p l xs]
    split <;> omega
theorem kcount_ev {outer inner : List Int} (ho : Part outer) : ∀ (rest pre : List Int) (rows : List (List Int)) (k : Int), Gr.Good outer inner rows k → pre.length + rest.length ≤ 9 → (∀ x ∈ rest, 0 ≤ x ∧ x ≤ 9) →
    Evs (fun f => spec_l7Count.f f (Gr.ptn outer inner rows) outer (pre ++ rest) (pre.length : Int)) (kval outer inner rest rows k)
  | [], pre, rows, k, hg, _, _ => by
    have h : (pre.length : Int) = ((pre ++ ([] : List Int)).length : Int) := by simp
    have hp := Gr.ptn_part ho hg
    refine Evs.succ ?_
    simp only [spec_l7Count.f, if_pos h]
    refine (size_ev _ (by have := hp.len; omega) (nn_of hp)).bind ((size_ev outer (by have := ho.len; omega) (nn_of ho)).bind ?_)
    unfold kval Gr.room Gr.fillL
    by_cases he : (Gr.ptn outer inner rows).sum = outer.sum
    · have e1 : ((Gr.ptn outer inner rows).sum == outer.sum) = true := by simpa using he
      have e2 : spec_l1Bit.f true = some 1 := rfl
      simp only [e1, e2, Option.bind_some]
      refine (Evs.pure _).same ?_
      rw [he, if_pos (by simp)]
      rfl
    · have e1 : ((Gr.ptn outer inner rows).sum == outer.sum) = false := by simpa using he
      have e2 : spec_l1Bit.f false = some 0 := rfl
      simp only [e1, e2, Option.bind_some]
      refine (Evs.pure _).same ?_
      rw [if_neg]
      rw [List.sum_nil]
      generalize (Gr.ptn outer inner rows).sum = z at *
      omega
  | w :: rest, pre, rows, k, hg, hl, hw => by
    rw [List.length_cons] at hl
    have hlen : (pre ++ w :: rest).length = pre.length + rest.length + 1 := by simp; omega
    have h : ¬ (pre.length : Int) = ((pre ++ w :: rest).length : Int) := by omega
    have h1 : (0 : Int) ≤ (pre.length : Int) := by omega
    have h2 : (pre.length : Int) < ((pre ++ w :: rest).length : Int) := by omega
    have hw0 := hw w (List.mem_cons_self ..)
    have hwn : ((w.toNat : Nat) : Int) = w := by omega
    have hrest : ∀ x ∈ rest, 0 ≤ x ∧ x ≤ 9 := fun x hx => hw x (List.mem_cons_of_mem _ hx)
    have hp := Gr.ptn_part ho hg
    have hst := strips_ev hp ho (Gr.ptn_le hg) outer.length 0 w.toNat (by omega) (by omega)
    rw [Gr.capsP_eq hg, hwn, Int.natCast_zero] at hst
    refine Evs.succ ?_
    simp only [spec_l7Count.f, if_neg h, if_pos h1, if_pos h2, rd_mid]
    refine hst.bind ?_
    have hsum : ∀ a ∈ Gr.ways (Gr.caps outer inner rows 0) w.toNat, a.sum = w.toNat := fun a ha => Gr.ways_sum _ _ a ha
    have hmem : ∀ a ∈ Gr.ways (Gr.caps outer inner rows 0) w.toNat, a ∈ Gr.ways (Gr.caps outer inner rows 0) a.sum := fun a ha => by rw [hsum a ha]; exact ha
    have hgood : ∀ a ∈ Gr.ways (Gr.caps outer inner rows 0) w.toNat, Gr.Good outer inner (Gr.ext k 0 rows a) (k + 1) := fun a ha => by
      obtain ⟨b2, b3⟩ := Gr.caps_le ha
      exact Gr.good_ext hg a b2 b3
    have hsmall : (Gr.ways (Gr.caps outer inner rows 0) w.toNat).length ≤ 1000000000 := by
      rw [← Gr.capsP_eq hg]
      have := Gr.ways_small (Gr.capsP (Gr.ptn outer inner rows) outer 0) w.toNat (Gr.capsP_le hp ho 0)
      rw [Gr.capsP_length] at this
      have h8 : 10 ^ (outer.length - 0) ≤ 10 ^ 9 := Nat.pow_le_pow_right (by decide) (by have := ho.len; omega)
      have h9 : 10 ^ 9 = 1000000000 := by decide
      omega
    generalize hWW : Gr.ways (Gr.caps outer inner rows 0) w.toNat = W at *
    have hv : ∀ a : List Nat, 0 ≤ (if a ∈ W then kval outer inner rest (Gr.ext k 0 rows a) (k + 1) else 0) ∧ (if a ∈ W then kval outer inner rest (Gr.ext k 0 rows a) (k + 1) else 0) ≤ 387420489 := fun a => by
      split
      · rename_i ha
        exact kval_le ho (hgood a ha) fun x hx => (hrest x hx).1
      · omega
    have hloop := kcount_l0 outer (pre ++ w :: rest) pre.length (by omega) (Gr.addw (Gr.ptn outer inner rows) 0) (fun a => Gr.ptn outer inner (Gr.ext k 0 rows a)) (fun a => if a ∈ W then kval outer inner rest (Gr.ext k 0 rows a) (k + 1) else 0) hv
      W [] 0 (fun a ha => by
        refine ⟨?_, ?_⟩
        · rw [Gr.addw_cols hg a (hmem a ha)]
          obtain ⟨c1, c2⟩ := Gr.cols_nn (hgood a ha)
          exact trim_ev _ (by rw [Gr.cols_length]; have := ho.len; omega) c1 c2
        · have ih := kcount_ev ho rest (pre ++ [w]) (Gr.ext k 0 rows a) (k + 1) (hgood a ha) (by simp; omega) hrest
          rw [if_pos ha, snoc pre w rest]
          rwa [show (pre ++ [w]).length = pre.length + 1 by simp] at ih) (by omega) (by omega) (by simp; omega)
    refine hloop.same ?_
    have hs2 : (W.map fun a => if a ∈ W then kval outer inner rest (Gr.ext k 0 rows a) (k + 1) else 0) = W.map fun a => if Gr.room outer inner rows = (w :: rest).sum then (((Gr.fillL outer inner rest (Gr.ext k 0 rows a) (k + 1)).length : Nat) : Int) else 0 := by
      apply List.map_congr_left
      intro a ha
      rw [if_pos ha]
      unfold kval
      have hr := Gr.room_ext hg a (hmem a ha)
      rw [hsum a ha] at hr
      rw [hr, List.sum_cons]
      by_cases hq : Gr.room outer inner rows = w + rest.sum
      · rw [if_pos hq, if_pos (by omega)]
      · rw [if_neg hq, if_neg (by omega)]
    rw [hs2, sum_ite_len, Int.zero_add]
    unfold kval
    conv => rhs; unfold Gr.fillL
    rw [hWW, List.length_flatMap]
theorem skostka_ev (outer inner ws : List Int) (ho : outer.length ≤ 4000000) (hi : inner.length ≤ 4000000) (hw : ws.length ≤ 4000000) :
    Evs (fun f => spec_KostkaNumber.f f outer inner ws) (if inside inner outer = true then (if okW ws = true then kval outer inner ws (List.replicate outer.length []) 1 else 0) else 0) := by
  unfold spec_KostkaNumber.f
  refine (sshape_ev outer inner ho hi).bind ?_
  cases h : inside inner outer with
  | false =>
    simp only [Bool.false_eq_true, if_false]
    exact Evs.pure _
  | true =>
    simp only [if_true]
    refine (weight_ev ws (by omega)).bind ?_
    cases hk : okW ws with
    | false =>
      simp only [Bool.false_eq_true, if_false]
      exact Evs.pure _
    | true =>
      obtain ⟨hl, hx⟩ := (okW_iff ws).1 hk
      obtain ⟨h1, h2, h3⟩ := (inside_iff _ _).1 h
      have hc := kcount_ev (inner := inner) h2 ws [] (List.replicate outer.length []) 1 (ones_fills h).1.start (by simpa using hl) hx
      rw [ptn_start h] at hc
      simp only [if_true]
      exact hc.bind (Evs.pure _)
theorem tofw_ev (outer inner ws : List Int) (ho : outer.length ≤ 4000000) (hi : inner.length ≤ 4000000) :
    Evs (fun f => impl_TableauxOfWeight.f f outer inner ws) (if inside inner outer = true then (if okW ws = true then (if ws.sum = outer.sum - inner.sum then impl_tableaux.sorted outer inner ws else []) else []) else []) := by
  unfold impl_TableauxOfWeight.f
  refine (ishape_ev outer inner ho hi).bind ?_
  cases h : inside inner outer with
  | false =>
    simp only [Bool.false_eq_true, if_false]
    exact Evs.pure _
  | true =>
    have he : impl_isWeight.f ws = some (okW ws) := rfl
    simp only [if_true, he, Option.bind_some]
    cases hk : okW ws with
    | false =>
      simp only [Bool.false_eq_true, if_false]
      exact Evs.pure _
    | true =>
      obtain ⟨hl, hx⟩ := (okW_iff ws).1 hk
      simp only [if_true]
      by_cases hs : ws.sum = outer.sum - inner.sum
      · rw [if_pos hs]
        exact (tableaux_ev ⟨h, hl, fun x hxm => (hx x hxm).1, hs⟩ fun x hxm => (hx x hxm).2).bind (Evs.pure _)
      · rw [if_neg hs]
        exact (tableaux_none h hl hx hs).bind (Evs.pure _)
theorem ikostka_ev (outer inner ws : List Int) (ho : outer.length ≤ 4000000) (hi : inner.length ≤ 4000000) :
    Evs (fun f => impl_KostkaNumber.f f outer inner ws) (if inside inner outer = true then (if okW ws = true then kval outer inner ws (List.replicate outer.length []) 1 else 0) else 0) := by
  unfold impl_KostkaNumber.f
  refine (tofw_ev outer inner ws ho hi).bind ((Evs.pure _).same ?_)
  cases h : inside inner outer with
  | false => simp
  | true =>
    simp only [if_true]
    split
    · unfold kval Gr.room
      rw [ptn_start h]
      by_cases hs : ws.sum = outer.sum - inner.sum
      · rw [if_pos hs, if_pos hs.symm, sorted_length]
        exact congrArg _ (Gr.growL_perm ws _ 1 (ones_fills h).1.start).length_eq
      · rw [if_neg hs, if_neg (fun e => hs e.symm)]
        rfl
    · rfl
theorem kostka_law (o i ws : List Int) (ho : o.length ≤ 9223372036854775807) (hi : i.length ≤ 9223372036854775807) (hw : ws.length ≤ 9223372036854775807) : ∃ k, laws_FnExactKostkaNumber.f k o i ws = some true := by
  refine Evs.get (r := true) ?_
  unfold laws_FnExactKostkaNumber.f
  by_cases hw1 : (ws.length : Int) > 1048576
  · simp only [if_pos hw1]
    exact Evs.pure _
  obtain ⟨n, hn, hs⟩ := szShape_eq o i (by omega) (by omega)
  simp only [if_neg hw1, hn, Option.bind_some]
  by_cases h0 : n < 0
  · simp only [if_pos h0]
    exact Evs.pure _
  · obtain ⟨h1, h2⟩ := hs (by omega)
    have ik := ikostka_ev o i ws (by omega) (by omega)
    have sk := skostka_ev o i ws (by omega) (by omega) (by omega)
    simp only [if_neg h0]
    refine (toShape_ev o i (by omega) (by omega)).bind ((toInt_ev ws (by omega)).bind (sk.bind ((toShape_ev o i (by omega) (by omega)).bind ((toInt_ev ws (by omega)).bind (ik.bind ?_)))))
    simp only [if_true]
    refine (toShape_ev o i (by omega) (by omega)).bind ((eqShape_ev o i (by omega) (by omega)).bind ?_)
    simp only [if_true]
    refine (toInt_ev ws (by omega)).bind ((eqInt_ev ws (by omega)).bind ?_)
    simp only [if_true]
    exact Evs.pure _
end Go.Proofs.YtppkfgcnmaifmaaDoor.Hb
