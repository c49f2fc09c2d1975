/- What the proof of the law leans on, part 6 of 6: contracts of the functions that it reaches, the words they are told in (laid by the kit's print.sh, here only as far as they are used), and what they come to. -/
import Derived.Test.YtppkfgcnmaifmaaDoorProg
import Derived.Below
import Derived.Deep.Draws
import Derived.Deep.AppendLies
import Derived.Maps.AppendAt
import Derived.OwnWalk
import Derived.Laws.BytesArg
import Derived.Laws.MakeOwn
import Derived.Laws.OwnMore
import Derived.Deep.OwnRows
import Derived.Tactics
import Derived.Lib.ConvBytes
import Derived.Laws.Slices
import Derived.WalkKit
import Derived.KernelRfl
import Derived.RowKit3
import Derived.Deep.LoopGhost
import Derived.Deep.QuietTactic
import Derived.BigQuiet
import Derived.WideLaws
import Derived.Deep.DeepCutAuto
import Derived.Deep.CutBlock
import Derived.Deep.RegionHeld3
import Derived.Laws.Rows
import Derived.Lib.AppendStr
import Derived.ArgAppend
import Derived.Laws.IdiomCopy
import Derived.OrdersHeld
import Derived.Laws.BitsLemmas
import Derived.RowKit
import Derived.Test.YtppkfgcnmaifmaaDoorVa5
namespace Go.Proofs.YtppkfgcnmaifmaaDoor.Hb
open Go.RowKit Go.Proofs.YtppkfgcnmaifmaaDoorW.PrintWords Go.Proofs.YtppkfgcnmaifmaaDoorW.PrintLast Go.Proofs.YtppkfgcnmaifmaaDoorW.PrintMore
attribute [local go_sem] max2_int min2_int max_two min_two max_three min_three max_four min_four   -- for this text's walks alone
set_option linter.unusedVariables false
set_option linter.unusedSimpArgs false
def impl_tableaux.le (inner : List Int) (a b : List (List Int)) : Bool := decide (Go.Lib.compareBytes (Gr.txt inner a) (Gr.txt inner b) ≤ 0)
def impl_tableaux.all (outer inner ws : List Int) : List (List (List Int)) := Gr.growL outer inner ws (List.replicate outer.length []) 1
def impl_tableaux.sorted (outer inner ws : List Int) : List S56 := ((impl_tableaux.all outer inner ws).mergeSort (impl_tableaux.le inner)).map fun r => ⟨inner, r⟩
def impl_tableaux.fine (k : Nat) (outer inner ws : List Int) : Bool :=
  (outer.all (fun x => decide (0 ≤ x ∧ x ≤ 9)) && inner.all (fun x => decide (0 ≤ x ∧ x ≤ 9)) && decide (outer.length ≤ 1000) && decide (inner.length ≤ 1000) && ws.all (fun x => decide (0 ≤ x)) && decide (ws.length ≤ 900) && decide (impl_grow.total ws ≤ 1000) &&
    decide ((impl_tableaux.all outer inner ws).length < 2000000000)) && ((impl_TableauText.f k [] []).isSome && (impl_tableaux.all outer inner ws).all (fun r => decide ((impl_TableauText.f k inner r).map (fun t => t.data.toList) = some (Gr.txt inner r))) && decide (((impl_tableaux.all outer inner ws).map (Gr.txt inner)).Nodup))
def impl_tableaux.f (k : Nat) (l0_0 l0_1 l1 : List Int) : Option (List S56) :=
  (impl_sum.f k l1).bind fun s => (impl_CellCount.f k l0_0 l0_1).bind fun c => if s ≠ c then some [] else if impl_tableaux.fine k l0_0 l0_1 l1 = true then some (impl_tableaux.sorted l0_0 l0_1 l1) else none
theorem impl_tableaux.map_inj {α β : Type} (f : α → β) : ∀ l : List α, (l.map f).Nodup → ∀ a b, a ∈ l → b ∈ l → f a = f b → a = b
  | [], _, _, _, ha, _, _ => by cases ha
  | x :: l, h, a, b, ha, hb, e => by
    rw [List.map_cons, List.nodup_cons] at h
    rcases List.mem_cons.1 ha with ea | ha' <;> rcases List.mem_cons.1 hb with eb | hb'
    · rw [ea, eb]
    · exact absurd (show f x ∈ l.map f by rw [← ea, e]; exact List.mem_map_of_mem hb') h.1
    · exact absurd (show f x ∈ l.map f by rw [← eb, ← e]; exact List.mem_map_of_mem ha') h.1
    · exact impl_tableaux.map_inj f l h.2 a b ha' hb' e
theorem impl_tableaux.callsS (k : Nat) (A0_0 : Option Addr) (c0_0 : Nat) (l0_0 : List Int) (A0_1 : Option Addr) (c0_1 : Nat) (l0_1 : List Int) (A1 : Option Addr) (c1 : Nat) (l1 : List Int) (r : List S56) (w : World) (hr0_0 : Kd.C (Kd.int .i64) w A0_0 l0_0.length l0_0) (hc0_0 : l0_0.length ≤ c0_0) (hr0_1 : Kd.C (Kd.int .i64) w A0_1 l0_1.length l0_1) (hc0_1 : l0_1.length ≤ c0_1) (hr1 : Kd.C (Kd.int .i64) w A1 l1.length l1) (hc1 : l1.length ≤ c1) (h : impl_tableaux.f k l0_0 l0_1 l1 = some r) :
    Calls Tryd.prog 99 #[.agg #[.slice A0_0 l0_0.length c0_0, .slice A0_1 l0_1.length c0_1], .slice A1 l1.length c1] w fun e w' => ∃ v0_ : Value, e = .returned (v0_) ∧ Kd.S k56 56 w' w.heap.size (fun _ => True) v0_ r ∧ Below w.heap.size w w' := by
  unfold impl_tableaux.f at h
  obtain ⟨s, hs, h⟩ := Option.bind_eq_some_iff.1 h
  obtain ⟨c, hcc, h⟩ := Option.bind_eq_some_iff.1 h
  by_cases e : s ≠ c
  · rw [if_pos e] at h
    obtain rfl := Option.some.inj h
    exact impl_tableaux.none_calls k A0_0 c0_0 l0_0 A0_1 c0_1 l0_1 A1 c1 l1 s c w hr0_0 hc0_0 hr0_1 hc0_1 hr1 hc1 hs hcc e
  · rw [if_neg e] at h
    by_cases hf : impl_tableaux.fine k l0_0 l0_1 l1 = true
    · rw [if_pos hf] at h
      obtain rfl := Option.some.inj h
      unfold impl_tableaux.fine at hf
      simp only [Bool.and_eq_true, List.all_eq_true, decide_eq_true_eq] at hf
      obtain ⟨⟨⟨⟨⟨⟨⟨⟨f1, f2⟩, f3⟩, f4⟩, f5⟩, f6⟩, f7⟩, f8⟩, ⟨f9, f10⟩, f11⟩ := hf
      refine (impl_tableaux.some_calls k A0_0 c0_0 l0_0 A0_1 c0_1 l0_1 A1 c1 l1 s c w hr0_0 hc0_0 hr0_1 hc0_1 hr1 hc1 hs hcc (Decidable.not_not.1 e) f1 f2 f3 f4 f5 f6 f7 f8 (Option.isSome_iff_exists.1 f9) (fun r hr => by
        obtain ⟨t, ht, _⟩ := Option.map_eq_some_iff.1 (f10 r hr)
        exact ⟨t, ht⟩)).mono ?_
      rintro en w' ⟨v0, he, ⟨ts', hperm, hpw, hS⟩, hb⟩
      refine ⟨v0, he, ?_, hb⟩
      have hmem : ∀ x ∈ ts', ∃ r ∈ impl_tableaux.all l0_0 l0_1 l1, x = ⟨l0_1, r⟩ := fun x hx => by
        obtain ⟨r, hr, rfl⟩ := List.mem_map.1 (hperm.subset hx)
        exact ⟨r, hr, rfl⟩
      have hts : ts' = (ts'.map fun x => x.f1).map fun r => (⟨l0_1, r⟩ : S56) := by
        rw [List.map_map]
        conv => lhs; rw [← List.map_id ts']
        apply List.map_congr_left
        intro x hx
        obtain ⟨r, _, rfl⟩ := hmem x hx
        rfl
      have hp2 : (ts'.map fun x => x.f1).Perm (impl_tableaux.all l0_0 l0_1 l1) := by
        have := hperm.map (fun x => x.f1)
        rw [List.map_map] at this
        rw [show ((fun x : S56 => x.f1) ∘ fun r => (⟨l0_1, r⟩ : S56)) = id from rfl, List.map_id] at this
        exact this
      have hsrt : (ts'.map fun x => x.f1) = (impl_tableaux.all l0_0 l0_1 l1).mergeSort (impl_tableaux.le l0_1) := by
        refine Gr.sort_unique (impl_tableaux.le l0_1) (fun a b c h1 h2 => ?_) (fun a b => ?_) _ _ hp2 ?_ (fun a b ha hb h1 h2 => ?_)
        · exact decide_eq_true (strings_Compare.cb_trans _ _ _ (of_decide_eq_true h1) (of_decide_eq_true h2))
        · have h1 := strings_Compare.cb_swap (Gr.txt l0_1 a) (Gr.txt l0_1 b)
          unfold impl_tableaux.le
          by_cases h2 : Go.Lib.compareBytes (Gr.txt l0_1 a) (Gr.txt l0_1 b) ≤ 0
          · simp [h2]
          · have h3 : Go.Lib.compareBytes (Gr.txt l0_1 b) (Gr.txt l0_1 a) ≤ 0 := by omega
            simp [h3]
        · rw [List.pairwise_map]
          refine List.Pairwise.imp_of_mem ?_ hpw
          intro a b ha hb hab
          obtain ⟨ra, hra, rfl⟩ := hmem a ha
          obtain ⟨rb, hrb, rfl⟩ := hmem b hb
          obtain ⟨ta, hta, ea⟩ := Option.map_eq_some_iff.1 (f10 ra hra)
          obtain ⟨tb, htb, eb⟩ := Option.map_eq_some_iff.1 (f10 rb hrb)
          have := hab ta tb hta htb
          rw [ea, eb] at this
          exact decide_eq_true this
        · have h3 := of_decide_eq_true h1
          have h4 := of_decide_eq_true h2
          have h5 := strings_Compare.cb_swap (Gr.txt l0_1 a) (Gr.txt l0_1 b)
          exact impl_tableaux.map_inj (Gr.txt l0_1) _ f11 a b ha hb (strings_Compare.cb_eq _ _ (by omega))
      rw [hts, hsrt] at hS
      exact hS
    · rw [if_neg hf] at h
      cases h
theorem impl_tableaux.calls (k : Nat) (A0_0 : Option Addr) (c0_0 : Nat) (l0_0 : List Int) (A0_1 : Option Addr) (c0_1 : Nat) (l0_1 : List Int) (A1 : Option Addr) (c1 : Nat) (l1 : List Int) (r : List S56) (w : World) (hr0_0 : Kd.C (Kd.int .i64) w A0_0 l0_0.length l0_0) (hc0_0 : l0_0.length ≤ c0_0) (hr0_1 : Kd.C (Kd.int .i64) w A0_1 l0_1.length l0_1) (hc0_1 : l0_1.length ≤ c0_1) (hr1 : Kd.C (Kd.int .i64) w A1 l1.length l1) (hc1 : l1.length ≤ c1) (h : impl_tableaux.f k l0_0 l0_1 l1 = some r) :
    Calls Tryd.prog 99 #[.agg #[.slice A0_0 l0_0.length c0_0, .slice A0_1 l0_1.length c0_1], .slice A1 l1.length c1] w fun e w' => ∃ v0_ : Value, e = .returned (v0_) ∧ Kd.R k56 56 w' w.heap.size (fun _ => True) v0_ r ∧ Below w.heap.size w w' :=
  (impl_tableaux.callsS k A0_0 c0_0 l0_0 A0_1 c0_1 l0_1 A1 c1 l1 r w hr0_0 hc0_0 hr0_1 hc0_1 hr1 hc1 h).mono fun _ _ ⟨v, he, hS, hb⟩ => ⟨v, he, Kd.S_R hS, hb⟩
def slices_Repeat_int_int.f (l0 : List Int) (a1 : Int) : Option (List Int) := if l0.length = 1 ∧ 0 ≤ a1 ∧ a1 ≤ 1000000 then some (List.replicate a1.toNat (l0.getD 0 0)) else none
theorem slices_Repeat_int_int.made0 (n : Nat) : (madeCells #[Value.int .i64 0] n) = (nums .i64 (List.replicate n 0)).toArray := by
  have h := (own_made ⟨#[], fun _ _ => 0, 0, default, #[]⟩ 0 0 .i64 n (Nat.zero_le _))
  apply Array.ext'
  apply List.ext_getElem
  · simp [nums, madeCells]
  · intro i h1 h2
    simp [nums, madeCells, Nat.mod_one]
theorem slices_Repeat_int_int.splice_ (x : Int) (n m c : Nat) (hm : m + c ≤ n) : splice (nums .i64 (List.replicate m x ++ List.replicate (n - m) 0)) m (nums .i64 (List.replicate c x)) = nums .i64 (List.replicate (m + c) x ++ List.replicate (n - (m + c)) 0) := by
  unfold splice nums
  apply List.ext_getElem?
  intro j
  simp only [List.map_append, List.map_replicate, List.length_replicate, List.getElem?_append, List.getElem?_drop, List.getElem?_take, List.length_take, List.length_append, List.getElem?_replicate]
  by_cases h1 : j < m
  · simp [h1, show j < m + c from by omega, show j < n from by omega, show min m n = m from by omega]
  · by_cases h2 : j < m + c
    · have e : ¬ j < min m (m + (n - m)) := by omega
      simp [h1, h2, show min m (m + (n - m)) = m from by omega, show j - m < c from by omega]
    · have e : m + c + (j - m - c) = j := by omega
      simp [h1, h2, show min m (m + (n - m)) = m from by omega, show ¬ (j - m < c) from by omega, e]
      rcases Nat.lt_or_ge j n with h3 | h3
      · rw [if_pos (by omega), if_pos (by omega)]
      · rw [if_neg (by omega), if_neg (by omega)]
theorem slices_Repeat_int_int.hpush (w : World) (o : Obj) : (w.alloc o).heap[w.heap.size]? = some o := by
  show (w.heap.push o)[w.heap.size]? = some o
  simp
theorem slices_Repeat_int_int.hsrc (w : World) (x : Int) (n : Nat) (o : Obj) (ad : Addr) (h : w.cell? ad = some (.int .i64 x)) (j : Nat) (v : Value) (hj : (nums .i64 (List.replicate (min 1 n) x))[j]? = some v) : (w.alloc o).cell? (ad.add j) = some v := by
  simp only [nums, List.map_replicate, List.getElem?_replicate] at hj
  split at hj
  · rename_i hlt
    obtain rfl : j = 0 := by omega
    cases hj
    rw [show ad.add 0 = ad from by simp [Addr.add], World.cell?_alloc_lt w o ad (World.block_lt_of_cell? _ _ h)]
    exact h
  · cases hj
theorem slices_Repeat_int_int.hread {W : World} {g m n : Nat} {x : Int} {el : TypeId} (hg : W.heap[g]? = some (.cells (nums .i64 (List.replicate m x ++ List.replicate (n - m) 0)).toArray el (0, 0))) {j : Nat} (hj : j < m) : W.cell? ((⟨g, 0, none⟩ : Addr).add j) = some (.int .i64 x) := by
  have e : (⟨g, 0, none⟩ : Addr).add j = ⟨g, j, none⟩ := by
    unfold Addr.add
    split <;> simp_all
  rw [e]
  simp [World.cell?, hg, nums, List.getElem?_append, hj]
theorem slices_Repeat_int_int.cutrun {P : Program} {t e : TypeId} (hs : (P.info? e).map (·.size) = some 1) (ht : P.underlying t = some (.slice e)) (g n m : Nat) (h : m < n) (W : World) : Sem.run P (Instr.slice t (.slice (some ⟨g, 0, none⟩) n n) (some (.int .i64 (m : Int))) none none) W = .ok (.slice (some ⟨g, m, none⟩) (n - m) (n - m)) W := by
  obtain ⟨i, hi, hsz⟩ := Option.map_eq_some_iff.1 hs
  have hel : P.elem t = e := by simp [Program.elem, ht]
  have hu : P.underlying t = some (.slice (P.elem t)) := by rw [hel]; exact ht
  have hr := run_slice_l W t (some ⟨g, 0, none⟩) n n hu .i64 (m : Int) (Int.natCast_nonneg _) (by omega)
  rw [hel] at hr
  have e : (⟨g, 0, none⟩ : Addr).add m = ⟨g, m, none⟩ := by
    unfold Addr.add
    split <;> simp_all
  have hne : ¬ n = m := by omega
  simpa [sizeOf, typeInfo, hi, hsz, sliced, Result.andThen, hne, e] using hr
theorem slices_Repeat_int_int.takerun {P : Program} {t e : TypeId} (hs : (P.info? e).map (·.size) = some 1) (ht : P.underlying t = some (.slice e)) (g n m : Nat) (h : m < n) (W : World) : Sem.run P (Instr.slice t (.slice (some ⟨g, 0, none⟩) n n) none (some (.int .i64 (m : Int))) none) W = .ok (.slice (some ⟨g, 0, none⟩) m n) W := by
  obtain ⟨i, hi, hsz⟩ := Option.map_eq_some_iff.1 hs
  have h := (print_take_of (P := P) (Value.int .i64) 0 t e .i64 ht hi hsz (some ⟨g, 0, none⟩) n (List.replicate n 0) (m : Int) (by omega) (by simp; omega) (by simp)).1 W
  simp at h
  rw [show min m n = m from by omega] at h
  exact h
theorem slices_Repeat_int_int.copyrun {P : Program} (dT sT ty el : TypeId) (hu : P.underlying dT = some (.slice el)) (hs : (P.info? el).map (·.size) = some 1) (W : World) (x : Int) (g n m c dLen dCap sLen sCap : Nat) (dp : Option Addr) (ad : Addr)
    (hg : W.heap[g]? = some (.cells (nums .i64 (List.replicate m x ++ List.replicate (n - m) 0)).toArray el (0, 0))) (hc : c = min sLen dLen) (hm : m + c ≤ n) (hdp : 0 < c → dp = some ⟨g, m, none⟩) (hsrc : ∀ j, j < c → W.cell? (ad.add j) = some (.int .i64 x)) :
    ∃ W', Sem.run P (Builtin.copy_ #[dT, sT] ty #[.slice dp dLen dCap, .slice (some ad) sLen sCap]) W = .ok (.int .i64 (c : Int)) W' ∧ W'.heap[g]? = some (.cells (nums .i64 (List.replicate (m + c) x ++ List.replicate (n - (m + c)) 0)).toArray el (0, 0)) ∧ ∀ B w0, B ≤ g → Below B w0 W → Below B w0 W' := by
  rcases Nat.eq_zero_or_pos c with h0 | h0
  · refine ⟨W, ?_, ?_, fun _ _ _ h => h⟩
    · rw [h0]; exact run_copy_none (P := P) W dT sT ty el dp (some ad) dLen dCap sLen sCap hu hs (by show min sLen dLen = 0; omega)
    · rw [h0]; exact hg
  · rw [hdp h0]
    have hl : (nums .i64 (List.replicate c x)).length = c := by simp [nums]
    have hr := run_copy_row (P := P) W dT sT ty el g m dLen dCap ad sLen sCap _ el (nums .i64 (List.replicate c x)) hu hs hg (by rw [hl, hc]) (by
      intro j v hj
      simp only [nums, List.map_replicate, List.getElem?_replicate] at hj
      split at hj
      · rename_i hlt; cases hj; exact hsrc j hlt
      · cases hj) (by rw [hl]; simp [nums]; omega) (by intro v hv; simp [nums] at hv; rw [hv.2]; rfl)
    rw [hl] at hr
    have hsp := slices_Repeat_int_int.splice_ x n m c hm
    unfold splice at hsp
    rw [hl] at hsp
    refine ⟨_, by rw [hr]; rfl, ?_, fun B w0 hB h => below_setRow h hB _⟩
    rw [setRow_heap W g _ _ el _ hg]
    simp only [List.append_assoc]
    rw [hsp]
set_option maxHeartbeats 1000000 in
set_option maxRecDepth 100000 in
theorem slices_Repeat_int_int.calls (A0 : Option Addr) (c0 : Nat) (l0 : List Int) (a1 : Int) (r : List Int) (w : World) (hr0 : Kd.C (Kd.int .i64) w A0 l0.length l0) (hc0 : l0.length ≤ c0) (h : slices_Repeat_int_int.f l0 a1 = some r) :
    Calls Tryd.prog 142 #[.slice A0 l0.length c0, .int .i64 a1] w fun e w' => ∃ v0_ : Value, e = .returned (v0_) ∧ Kd.R (Kd.int .i64) 3 w' w.heap.size (fun _ => True) v0_ r ∧ Below w.heap.size w w' := by
  have hinfo : (Tryd.prog.info? 3).map (fun i => (i.zero, i.size, i.bytes)) = some (some (.int .i64 0), 1, 8) := by kernel_rfl
  have HI := Aside0.mk hinfo
  unfold slices_Repeat_int_int.f at h
  by_cases hcnd : l0.length = 1 ∧ 0 ≤ a1 ∧ a1 ≤ 1000000
  · rw [if_pos hcnd] at h
    obtain rfl := Option.some.inj h
    obtain ⟨h1, h2, h3⟩ := hcnd
    obtain ⟨x, rfl⟩ : ∃ x, l0 = [x] := List.length_eq_one_iff.1 h1
    obtain ⟨n, rfl⟩ := Int.eq_ofNat_of_zero_le h2
    have hn : n ≤ 1000000 := by omega
    obtain ⟨ad, rfl, hcell⟩ := hr0.2.2 (by simp)
    have hx : w.cell? ad = some (.int .i64 x) := by
      obtain ⟨c, _, hK, hu⟩ := hcell 0 x rfl
      obtain rfl : c = [.int .i64 x] := hK
      have := hu 0 _ rfl
      simpa [Addr.add] using this
    clear hr0 hcell h hinfo h1 h2 h3
    have hmk := print_make (P := Tryd.prog) 22 3 .i64 8 Tryd.underlying22 HI.out (by omega) n (by omega)
    rw [slices_Repeat_int_int.made0] at hmk
    have hmul : ∀ w, Calls Tryd.prog 132 #[.int .u64 1, .int .u64 n] w fun e w' => e = .returned (.tuple #[.int .u64 0, .int .u64 n]) ∧ w = w' := by
      intro w
      have hm := Go.Proofs.Tryd.bits_Mul 1 n (by omega) (by omega) w
      rw [show (1 * n / 18446744073709551616 : Nat) = 0 from by omega, show (1 * n % 18446744073709551616 : Nat) = n from by omega] at hm
      exact hm.mono fun e w' h => ⟨h.1, h.2.symm⟩
    have hsz : (Tryd.prog.info? 3).map (·.size) = some 1 := by
      have := HI.out
      cases hq : Tryd.prog.info? 3 with
      | none => rw [hq] at this; cases this
      | some i => rw [hq] at this; simp at this; simp [this]
    have HZ := Aside0.mk hsz
    clear hsz
    have HX := Aside0.mk hx
    clear hx
    obtain ⟨m, hm⟩ : ∃ m, m = min 1 n := ⟨_, rfl⟩
    obtain ⟨w2, hcp, hg2, hb2⟩ := slices_Repeat_int_int.copyrun (P := Tryd.prog) 22 22 3 3 Tryd.underlying22 HZ.out (w.alloc (Obj.cells (nums IntKind.i64 (List.replicate n 0)).toArray 3)) x w.heap.size n 0 m n n 1 c0 (some ⟨w.heap.size, 0, none⟩) ad (by simpa using slices_Repeat_int_int.hpush _ _) hm (by omega) (fun _ => rfl) (fun j hj => slices_Repeat_int_int.hsrc w x n _ ad HX.out j (.int .i64 x) (by rw [← hm]; simp only [nums, List.map_replicate, List.getElem?_replicate]; rw [if_pos hj]))
    have HM := Aside0.mk hm
    have HG2 := Aside0.mk hg2
    have HB2 := Aside0.mk (hb2 w.heap.size w (Nat.le_refl _) ((Below.refl _ _).alloc (Nat.le_refl _) _))
    clear hm hg2 hb2
    go_enter Tryd.func142, Tryd.ntmps142
    go_wp2_with (first
      | (go_at_call 132; refine (hmul _).mono ?_; rintro e w' ⟨rfl, rfl⟩))
    clear hcp hmk hmul
    go_loopg [8] n (fun kq v8 wr => ∃ m : Nat, v8 = .int .i64 (m : Int) ∧ Aside0 (m ≤ n ∧ (0 < n → 0 < m) ∧ n ≤ m + kq) ∧ Aside0 (wr.heap[w.heap.size]? = some (.cells (nums .i64 (List.replicate m x ++ List.replicate (n - m) 0)).toArray 3 (0, 0))) ∧ Aside0 (Below w.heap.size w wr))
    case atStart => have := HM.out; exact ⟨m, rfl, ⟨by omega, by omega, by omega⟩, ⟨by simpa using HG2.out⟩, HB2⟩
    case round =>
      clear HG2 HB2 HM
      obtain ⟨m1, rfl, HM, HG, HB⟩ := hrel
      by_cases hlt : (m1 : Int) < (n : Int)
      · have hlt' : m1 < n := by omega
        obtain ⟨k1, rfl⟩ : ∃ k, gk = k + 1 := ⟨gk - 1, by have := HM.out; omega⟩
        obtain ⟨w3, hcp, hg3, hb3⟩ := slices_Repeat_int_int.copyrun (P := Tryd.prog) 22 22 3 3 Tryd.underlying22 HZ.out wr.drew x w.heap.size n m1 (min m1 (n - m1)) (n - m1) (n - m1) m1 n (some ⟨w.heap.size, m1, none⟩) ⟨w.heap.size, 0, none⟩ HG.out rfl (by omega) (fun _ => rfl) (fun j hj => slices_Repeat_int_int.hread (W := wr.drew) HG.out (by omega))
        have HG3 := Aside0.mk hg3
        have HB3 := Aside0.mk (hb3 _ _ (Nat.le_refl _) HB.out.drew)
        have hs1 : ∀ W, Sem.run Tryd.prog (Instr.slice 22 (.slice (some ⟨w.heap.size, 0, none⟩) n n) (some (.int .i64 (m1 : Int))) none none) W = .ok (.slice (some ⟨w.heap.size, m1, none⟩) (n - m1) (n - m1)) W := slices_Repeat_int_int.cutrun HZ.out Tryd.underlying22 _ n m1 hlt'
        have hs2 : ∀ W, Sem.run Tryd.prog (Instr.slice 22 (.slice (some ⟨w.heap.size, 0, none⟩) n n) none (some (.int .i64 (m1 : Int))) none) W = .ok (.slice (some ⟨w.heap.size, 0, none⟩) m1 n) W := slices_Repeat_int_int.takerun HZ.out Tryd.underlying22 _ n m1 hlt'
        obtain ⟨cc, hcc⟩ : ∃ c, c = min m1 (n - m1) := ⟨_, rfl⟩
        rw [← hcc] at hcp HG3
        have hwr : wrap64 ((m1 : Int) + (cc : Int)) = ((m1 + cc : Nat) : Int) := by
          have : m1 + cc ≤ n := by omega
          unfold wrap64; omega
        have HCC := Aside0.mk hcc
        clear hg3 hb3 hcc HG HB
        go_wp2
        go_region
        go_wp2
        go_roundg k1
        case measure => exact Nat.lt_succ_self _
        case rel => exact ⟨m1 + cc, congrArg _ hwr, ⟨by have := HM.out; have := HCC.out; omega⟩, HG3, HB3⟩
      · have hEq : m1 = n := by have := HM.out; omega
        subst hEq
        go_wp2
        go_ret
        refine ⟨_, rfl, Kd.R_of_own ⟨by simp [encs], .inr ⟨w.heap.size, m1, _, by simp, Nat.le_refl _, HG.out, by simp, by simp [maxLen]; omega, by simp [nums], by simp [nums, encs]⟩⟩ (fun _ _ => trivial), HB.out⟩
  · rw [if_neg hcnd] at h
    cases h
def impl_ones.f (a0 : Int) : Option (List Int) := (slices_Repeat_int_int.f (([1] : List Int)) a0).bind fun t291 => (some t291)
set_option maxHeartbeats 8000000 in
set_option maxRecDepth 100000 in
theorem impl_ones.calls (a0 : Int) (r : List Int) (w : World) (h : impl_ones.f a0 = some r) :
    Calls Tryd.prog 100 #[.int .i64 a0] w fun e w' => ∃ v0_ : Value, e = .returned (v0_) ∧ Kd.R (Kd.int .i64) 3 w' w.heap.size (fun _ => True) v0_ r ∧ Below w.heap.size w w' := by
  have HB := Aside0.mk (Below.refl w.heap.size w)
  have H : ((slices_Repeat_int_int.f (([1] : List Int)) a0).bind fun t291 => (some t291)) = some r := h
  clear h
  obtain ⟨y288, hy288⟩ : ∃ y_ : List Int, y_ = (([1] : List Int)) := ⟨_, rfl⟩
  replace H : ((slices_Repeat_int_int.f y288 a0).bind fun t291 => (some t291)) = some r := by first | (rw [hy288]; with_reducible exact H) | (have H2_ := (Option.bind_some _ _).symm.trans H; rw [hy288]; with_reducible exact H2_) | (have H2_ := (Option.bind_some _ _).symm.trans H; with_reducible exact H2_) | with_reducible exact H | (rw [hy288]; exact H) | exact H
  have Ny288 := Aside0.mk hy288
  clear hy288
  replace H := Option.bind_eq_some_iff.mp H
  obtain ⟨t291, A20, H⟩ := H
  replace H : (some t291) = some r := H
  have A2 := Aside0.mk A20
  clear A20
  obtain rfl := Option.some.inj H
  go_enter Tryd.func100, Tryd.ntmps100
  go_wp2_with (first | ((with_reducible refine gate_dst (N := 3) rfl ?_); refine Kd.R_lit (Kd.int .i64) _ 3 ?hg (N := 3) ?hd (xs := ([1] : List Int)) (inner := [.int .i64 1]) (ok := fun _ => True) (okp := fun _ => True) ?hr ?hp (fun _ hk => hk) trivial (Below.refl _ _) (Nat.le_refl _) (by simp) ?_; (case hd => rfl); (case hg => rfl); (case hr => first | (go_simp; done) | (go_simp; rfl)); (case hp => exact (Reps.one (show Kd.M (Kd.int .i64) _ _ _ 1 [.int .i64 1] from rfl) (Reps.none _ _))); intro v289 w3 ho4 hb hg_ hnew_; clear hg_ hnew_; (first | rw [← Ny288.out] at ho4 | (simp only [Int.reduceToNat] at ho4; rw [← Ny288.out] at ho4)); have n0_ := Aside0.mk (Kd.R_lower ho4 (below_size (by repeat (first | (with_reducible first | exact HB.out | apply below_alloc | apply pw_below_drewN | apply below_drew1) | exact HB.out)))); have n1_ := Aside0.mk (below_step (by repeat (first | (with_reducible first | exact HB.out | apply below_alloc | apply pw_below_drewN | apply below_drew1) | exact HB.out)) hb); clear HB; have HO290 := n0_; have HB := n1_; clear n0_ n1_; clear hb ho4; obtain ⟨Ao5, co5, eo5⟩ := Kd.R_slice HO290.out; subst eo5) | ((with_reducible refine gate_callee (f := 142) rfl ?_); refine goesL_ (some 5) rfl rfl Tryd.func142 (by kernel_rfl) rfl #[.slice Ao5 y288.length co5, .int .i64 a0] rfl (by (try simp only [List.map_toArray, List.map_cons, List.map_nil]); first | done | rfl | (simp only [List.length_drop, List.length_take]; rfl)) ?_; (with_reducible refine (slices_Repeat_int_int.calls _ _ y288 a0 t291 _ ?side1 ?side2 A2.out).mono ?_); (case side1 => repeat (first | exact (Kd.R_reads' HO290.out).2.2 | (with_reducible refine Kd.C_alloc ?_ _) | (with_reducible refine Kd.C_drewN ?_ _) | (with_reducible refine Kd.C_drew ?_))); (case side2 => exact (Kd.R_reads' HO290.out).2.1); rintro e w6 ⟨v292, rfl, ho0, hb⟩; refine ⟨_, rfl, ?_⟩; have n0_ := Aside0.mk (Kd.R_elder' (by (with_reducible repeat (first | apply Kd.R_alloc | apply Kd.R_drewN | apply Kd.R_drew)); exact HO290.out) (Kd.R_base ho0) hb); have n1_ := Aside0.mk (Kd.R_lower (Kd.R_new' ho0 (Kd.R_lt (by (with_reducible repeat (first | apply Kd.R_alloc | apply Kd.R_drewN | apply Kd.R_drew)); exact HO290.out))) (below_size (by repeat (first | (with_reducible first | exact HB.out | apply below_alloc | apply pw_below_drewN | apply below_drew1) | exact HB.out)))); have n2_ := Aside0.mk (below_step (by repeat (first | (with_reducible first | exact HB.out | apply below_alloc | apply pw_below_drewN | apply below_drew1) | exact HB.out)) hb); clear HO290; clear HB; have HO290 := n0_; have HO293 := n1_; have HB := n2_; clear n0_ n1_ n2_; (try clear hb); (try clear hb2); (try clear hk); (try clear hi); (try clear ho0)))
  go_ret
  exact ⟨_, by first | rfl | (simp [errW_none, errW_some] <;> rfl) | (simp [*, errW_none, errW_some] <;> rfl), by (with_reducible repeat (first | apply Kd.R_alloc | apply Kd.R_drewN | apply Kd.R_drew)); exact Kd.R_mono HO293.out (fun _ hk => trivial), by repeat (first | (with_reducible first | exact HB.out | apply below_alloc | apply pw_below_drewN | apply below_drew1) | exact HB.out)⟩
def impl_StandardTableaux.f (k : Nat) (l0_0 : List Int) (l0_1 : List Int) : Option ((List (S56))) := (impl_IsShape.f k l0_0 l0_1).bind fun t295 => (if t295 = true then ((impl_CellCount.f k l0_0 l0_1).bind fun t296 => ((impl_ones.f t296).bind fun t297 => ((impl_tableaux.f k l0_0 l0_1 t297).bind fun t300 => (some t300)))) else (some ([] : List (S56))))
set_option maxHeartbeats 8000000 in
set_option maxRecDepth 100000 in
theorem impl_StandardTableaux.calls (k : Nat) (A0_0 : Option Addr) (c0_0 : Nat) (l0_0 : List Int) (A0_1 : Option Addr) (c0_1 : Nat) (l0_1 : List Int) (r : List (S56)) (w : World) (hr0_0 : Kd.C (Kd.int .i64) w A0_0 l0_0.length l0_0) (hc0_0 : l0_0.length ≤ c0_0) (hr0_1 : Kd.C (Kd.int .i64) w A0_1 l0_1.length l0_1) (hc0_1 : l0_1.length ≤ c0_1) (h : impl_StandardTableaux.f k l0_0 l0_1 = some r) :
    Calls Tryd.prog 64 #[.agg #[.slice A0_0 l0_0.length c0_0, .slice A0_1 l0_1.length c0_1]] w fun e w' => ∃ v0_ : Value, e = .returned (v0_) ∧ Kd.R k56 56 w' w.heap.size (fun _ => True) v0_ r ∧ Below w.heap.size w w' := by
  have hu38 := Tryd.underlying38
  have HR0_0 := Aside0.mk hr0_0
  have HC0_0 := Aside0.mk hc0_0
  clear hr0_0 hc0_0
  have HR0_1 := Aside0.mk hr0_1
  have HC0_1 := Aside0.mk hc0_1
  clear hr0_1 hc0_1
  have HB := Aside0.mk (Below.refl w.heap.size w)
  have H : ((impl_IsShape.f k l0_0 l0_1).bind fun t295 => (if t295 = true then ((impl_CellCount.f k l0_0 l0_1).bind fun t296 => ((impl_ones.f t296).bind fun t297 => ((impl_tableaux.f k l0_0 l0_1 t297).bind fun t300 => (some t300)))) else (some ([] : List (S56))))) = some r := h
  clear h
  replace H := Option.bind_eq_some_iff.mp H
  obtain ⟨t295, A20, H⟩ := H
  replace H : (if t295 = true then ((impl_CellCount.f k l0_0 l0_1).bind fun t296 => ((impl_ones.f t296).bind fun t297 => ((impl_tableaux.f k l0_0 l0_1 t297).bind fun t300 => (some t300)))) else (some ([] : List (S56)))) = some r := H
  have A2 := Aside0.mk A20
  clear A20
  by_cases c3 : t295 = true
  · subst c3
    have H1 : ((impl_CellCount.f k l0_0 l0_1).bind fun t296 => ((impl_ones.f t296).bind fun t297 => ((impl_tableaux.f k l0_0 l0_1 t297).bind fun t300 => (some t300)))) = some r := by rw [if_pos rfl] at H; exact H
    clear H
    have H := H1
    clear H1
    replace H := Option.bind_eq_some_iff.mp H
    obtain ⟨t296, A40, H⟩ := H
    replace H : ((impl_ones.f t296).bind fun t297 => ((impl_tableaux.f k l0_0 l0_1 t297).bind fun t300 => (some t300))) = some r := H
    have A4 := Aside0.mk A40
    clear A40
    replace H := Option.bind_eq_some_iff.mp H
    obtain ⟨t297, A50, H⟩ := H
    replace H : ((impl_tableaux.f k l0_0 l0_1 t297).bind fun t300 => (some t300)) = some r := H
    have A5 := Aside0.mk A50
    clear A50
    replace H := Option.bind_eq_some_iff.mp H
    obtain ⟨t300, A60, H⟩ := H
    replace H : (some t300) = some r := H
    have A6 := Aside0.mk A60
    clear A60
    obtain rfl := Option.some.inj H
    go_enter Tryd.func64, Tryd.ntmps64
    try go_wp2_with (first | ((with_reducible refine gate_dst (N := 1) rfl ?_); refine box_event ?hg (N := 1) ?hd (cs := #[.slice A0_0 l0_0.length c0_0, .slice A0_1 l0_1.length c0_1]) (t := 38) ?hr ?_; (case hd => rfl); (case hg => rfl); (case hr => first | (go_simp; done) | (go_simp; rfl)); intro gb294 hg w7 hbox hb; have n0_ := Aside0.mk (below_step (by repeat (first | (with_reducible first | exact HB.out | apply below_alloc | apply pw_below_drewN | apply below_drew1) | exact HB.out)) hb); have n1_ := Aside0.mk (hbox); have n2_ := Aside0.mk ((by rw [hg]; exact (below_size (by repeat (first | (with_reducible first | exact HB.out | apply below_alloc | apply pw_below_drewN | apply below_drew1) | exact HB.out))) : w.heap.size ≤ gb294)); have n3_ := Aside0.mk ((by rw [hg]; exact (below_size (by repeat (first | (with_reducible first | exact HB.out | apply below_alloc | apply pw_below_drewN | apply below_drew1) | exact HB.out))) : w.heap.size ≤ gb294)); clear HB; have HB := n0_; have BK294 := n1_; have GW294 := n2_; have GE294 := n3_; clear n0_ n1_ n2_ n3_; clear hb hbox hg; have hcz8_0 : w7.cell? ⟨gb294, 0, none⟩ = some (.slice A0_0 l0_0.length c0_0) := (blk_cell BK294.out 0).trans rfl; have hcz8_1 : w7.cell? ⟨gb294, 1, none⟩ = some (.slice A0_1 l0_1.length c0_1) := (blk_cell BK294.out 1).trans rfl; have hfz8_0 := blk_frozen BK294.out 0; have hfz8_1 := blk_frozen BK294.out 1) | ((with_reducible refine gate_callee (f := 98) rfl ?_); refine goesL_ (some 4) rfl rfl Tryd.func98 (by kernel_rfl) rfl #[.agg #[.slice A0_0 l0_0.length c0_0, .slice A0_1 l0_1.length c0_1]] rfl (by (try simp only [List.map_toArray, List.map_cons, List.map_nil]); first | done | rfl | (simp only [List.length_drop, List.length_take]; rfl)) ?_; (with_reducible refine (impl_IsShape.calls k _ _ l0_0 _ _ l0_1 true _ ?side1 ?side2 ?side3 ?side4 A2.out).mono ?_); (case side1 => repeat (first | exact (Kd.C_below HR0_0.out HB.out) | (with_reducible refine Kd.C_alloc ?_ _) | (with_reducible refine Kd.C_drewN ?_ _) | (with_reducible refine Kd.C_drew ?_))); (case side2 => exact HC0_0.out); (case side3 => repeat (first | exact (Kd.C_below HR0_1.out HB.out) | (with_reducible refine Kd.C_alloc ?_ _) | (with_reducible refine Kd.C_drewN ?_ _) | (with_reducible refine Kd.C_drew ?_))); (case side4 => exact HC0_1.out); rintro e w9 ⟨rfl, hb⟩; refine ⟨_, rfl, ?_⟩; have n0_ := Aside0.mk (blk_below (g := gb294) (o := .cells #[.slice A0_0 l0_0.length c0_0, .slice A0_1 l0_1.length c0_1] 38 (0, 0)) (by (with_reducible repeat (first | refine blk_drewN ?_ _ | refine blk_drew ?_ | refine blk_alloc ?_ _)); exact BK294.out) hb); have n1_ := Aside0.mk (below_step (by repeat (first | (with_reducible first | exact HB.out | apply below_alloc | apply pw_below_drewN | apply below_drew1 | refine below_set ?_ GE294.out) | exact HB.out)) hb); clear BK294; clear HB; have BK294 := n0_; have HB := n1_; clear n0_ n1_; (try clear hb); (try clear hb2); (try clear hk); (try clear hi)))
    have n0_ := Aside0.mk (blk_drew BK294.out)
    have n1_ := Aside0.mk (below_drew1 HB.out)
    clear BK294
    clear HB
    have BK294 := n0_
    have HB := n1_
    clear n0_ n1_
    refine start_ (n := 6) (S := fun w' => w'.cell? ⟨gb294, 0, none⟩ = some (.slice A0_0 l0_0.length c0_0) ∧ w'.cell? ⟨gb294, 1, none⟩ = some (.slice A0_1 l0_1.length c0_1)) (ds := []) #[false, false, false, false, false, false] (by kernel_rfl) rfl rfl ⟨(blk_cell BK294.out 0).trans rfl, (blk_cell BK294.out 1).trans rfl⟩ (fun hHeld => ?_)
    generalize w9.drew = w10 at BK294 HB hHeld ⊢
    refine take_ (i := 0) (N := some 6) (v := ?_) (a' := ?_) #[true, false, false, false, false, false] rfl rfl (by kernel_rfl) (fun _ _ _ h => h) (Or.inl ⟨by rfl, ?_⟩) hHeld ?_ ?_
    rotate_left
    · rintro w' ⟨s0, s1⟩
      go_simp
      with_reducible rfl
    rotate_left
    · simp only [Act.put, List.setIfInBounds_toArray, List.set_cons_zero, List.set_cons_succ, i64_w, i32_w]
      rfl
    refine take_ (i := 1) (N := some 7) (v := ?_) (a' := ?_) #[true, true, false, false, false, false] rfl rfl (by kernel_rfl) (fun _ _ _ h => h) (Or.inl ⟨by rfl, ?_⟩) hHeld ?_ ?_
    rotate_left
    · rintro w' ⟨s0, s1⟩
      go_simp
      with_reducible rfl
    rotate_left
    · simp only [Act.put, List.setIfInBounds_toArray, List.set_cons_zero, List.set_cons_succ, i64_w, i32_w]
      rfl
    refine one_ (i := 2) (N := some 8) #[true, true, true, false, false, false] rfl rfl (by kernel_rfl) (by decide) (fun K hK => ?_)
    refine goes_ Tryd.func101 (by kernel_rfl) rfl #[.agg #[.slice A0_0 l0_0.length c0_0, .slice A0_1 l0_1.length c0_1]] (by rfl) rfl rfl (by (try simp only [List.map_toArray, List.map_cons, List.map_nil]); first | done | rfl | (simp only [List.length_drop, List.length_take]; rfl)) ?_
    with_reducible refine (impl_CellCount.calls k _ _ l0_0 _ _ l0_1 t296 _ ?side1 ?side2 ?side3 ?side4 A4.out).mono ?_
    (case side1 => repeat (first | exact (Kd.C_below HR0_0.out HB.out) | (with_reducible refine Kd.C_alloc ?_ _) | (with_reducible refine Kd.C_drewN ?_ _) | (with_reducible refine Kd.C_drew ?_)))
    (case side2 => exact HC0_0.out)
    (case side3 => repeat (first | exact (Kd.C_below HR0_1.out HB.out) | (with_reducible refine Kd.C_alloc ?_ _) | (with_reducible refine Kd.C_drewN ?_ _) | (with_reducible refine Kd.C_drew ?_)))
    (case side4 => exact HC0_1.out)
    rintro e w11 ⟨rfl, hb⟩
    refine ⟨_, rfl, ?_⟩
    have n0_ := Aside0.mk (blk_below (g := gb294) (o := .cells #[.slice A0_0 l0_0.length c0_0, .slice A0_1 l0_1.length c0_1] 38 (0, 0)) (by (with_reducible repeat (first | refine blk_drewN ?_ _ | refine blk_drew ?_ | refine blk_alloc ?_ _)); exact BK294.out) hb)
    have n1_ := Aside0.mk (below_step (by repeat (first | (with_reducible first | exact HB.out | apply below_alloc | apply pw_below_drewN | apply below_drew1 | refine below_set ?_ GE294.out) | exact HB.out)) hb)
    clear BK294
    clear HB
    have BK294 := n0_
    have HB := n1_
    clear n0_ n1_
    (try clear hb)
    (try clear hb2)
    (try clear hk)
    (try clear hi)
    refine hK.out _ _ ⟨(blk_cell BK294.out 0).trans rfl, (blk_cell BK294.out 1).trans rfl⟩ (fun hHeld => ?_)
    clear hK K
    refine norm_ (a' := ?_) ?_ ?_
    rotate_left
    · show Act.put _ (some 8) _ = _
      simp only [Act.put, List.setIfInBounds_toArray, List.set_cons_zero, List.set_cons_succ, i64_w, i32_w]
      rfl
    refine one_ (i := 3) (N := some 9) #[true, true, true, true, false, false] rfl rfl (by kernel_rfl) (by decide) (fun K hK => ?_)
    refine goes_ Tryd.func100 (by kernel_rfl) rfl #[.int .i64 t296] (by rfl) rfl rfl (by (try simp only [List.map_toArray, List.map_cons, List.map_nil]); first | done | rfl | (simp only [List.length_drop, List.length_take]; rfl)) ?_
    with_reducible refine (impl_ones.calls t296 t297 _ A5.out).mono ?_
    rintro e w12 ⟨v298, rfl, ho0, hb⟩
    refine ⟨_, rfl, ?_⟩
    have n0_ := Aside0.mk (Kd.R_lower ho0 (below_size (by repeat (first | (with_reducible first | exact HB.out | apply below_alloc | apply pw_below_drewN | apply below_drew1 | refine below_set ?_ GE294.out) | exact HB.out))))
    have n1_ := Aside0.mk (blk_below (g := gb294) (o := .cells #[.slice A0_0 l0_0.length c0_0, .slice A0_1 l0_1.length c0_1] 38 (0, 0)) (by (with_reducible repeat (first | refine blk_drewN ?_ _ | refine blk_drew ?_ | refine blk_alloc ?_ _)); exact BK294.out) hb)
    have n2_ := Aside0.mk (below_step (by repeat (first | (with_reducible first | exact HB.out | apply below_alloc | apply pw_below_drewN | apply below_drew1 | refine below_set ?_ GE294.out) | exact HB.out)) hb)
    clear BK294
    clear HB
    have HO299 := n0_
    have BK294 := n1_
    have HB := n2_
    clear n0_ n1_ n2_
    (try clear hb)
    (try clear hb2)
    (try clear hk)
    (try clear hi)
    (try clear ho0)
    obtain ⟨Ao13, co13, eo13⟩ := Kd.R_slice HO299.out
    (first | subst eo13 | (injection eo13 with f1_ f2_ f3_; have f4_ := f1_.symm; have f5_ := f3_.symm; clear f1_ f2_ f3_; subst f4_; subst f5_))
    refine hK.out _ _ ⟨(blk_cell BK294.out 0).trans rfl, (blk_cell BK294.out 1).trans rfl⟩ (fun hHeld => ?_)
    clear hK K
    refine norm_ (a' := ?_) ?_ ?_
    rotate_left
    · show Act.put _ (some 9) _ = _
      simp only [Act.put, List.setIfInBounds_toArray, List.set_cons_zero, List.set_cons_succ, i64_w, i32_w]
      rfl
    refine one_ (i := 4) (N := some 10) #[true, true, true, true, true, false] rfl rfl (by kernel_rfl) (by decide) (fun K hK => ?_)
    refine goes_ Tryd.func99 (by kernel_rfl) rfl #[.agg #[.slice A0_0 l0_0.length c0_0, .slice A0_1 l0_1.length c0_1], .slice Ao13 t297.length co13] (by rfl) rfl rfl (by (try simp only [List.map_toArray, List.map_cons, List.map_nil]); first | done | rfl | (simp only [List.length_drop, List.length_take]; rfl)) ?_
    with_reducible refine (impl_tableaux.calls k _ _ l0_0 _ _ l0_1 _ _ t297 t300 _ ?side1 ?side2 ?side3 ?side4 ?side5 ?side6 A6.out).mono ?_
    (case side1 => repeat (first | exact (Kd.C_below HR0_0.out HB.out) | (with_reducible refine Kd.C_alloc ?_ _) | (with_reducible refine Kd.C_drewN ?_ _) | (with_reducible refine Kd.C_drew ?_)))
    (case side2 => exact HC0_0.out)
    (case side3 => repeat (first | exact (Kd.C_below HR0_1.out HB.out) | (with_reducible refine Kd.C_alloc ?_ _) | (with_reducible refine Kd.C_drewN ?_ _) | (with_reducible refine Kd.C_drew ?_)))
    (case side4 => exact HC0_1.out)
    (case side5 => repeat (first | exact (Kd.R_reads' HO299.out).2.2 | (with_reducible refine Kd.C_alloc ?_ _) | (with_reducible refine Kd.C_drewN ?_ _) | (with_reducible refine Kd.C_drew ?_)))
    (case side6 => exact (Kd.R_reads' HO299.out).2.1)
    rintro e w14 ⟨v301, rfl, ho0, hb⟩
    refine ⟨_, rfl, ?_⟩
    have n0_ := Aside0.mk (Kd.R_below (by (with_reducible repeat (first | apply Kd.R_alloc | apply Kd.R_drewN | apply Kd.R_drew)); exact HO299.out) hb)
    have n1_ := Aside0.mk (Kd.R_lower (Kd.R_new' ho0 (Kd.R_lt (by (with_reducible repeat (first | apply Kd.R_alloc | apply Kd.R_drewN | apply Kd.R_drew)); exact HO299.out))) (below_size (by repeat (first | (with_reducible first | exact HB.out | apply below_alloc | apply pw_below_drewN | apply below_drew1 | refine below_set ?_ GE294.out) | exact HB.out))))
    have n2_ := Aside0.mk (blk_below (g := gb294) (o := .cells #[.slice A0_0 l0_0.length c0_0, .slice A0_1 l0_1.length c0_1] 38 (0, 0)) (by (with_reducible repeat (first | refine blk_drewN ?_ _ | refine blk_drew ?_ | refine blk_alloc ?_ _)); exact BK294.out) hb)
    have n3_ := Aside0.mk (below_step (by repeat (first | (with_reducible first | exact HB.out | apply below_alloc | apply pw_below_drewN | apply below_drew1 | refine below_set ?_ GE294.out) | exact HB.out)) hb)
    clear HO299
    clear BK294
    clear HB
    have HO299 := n0_
    have HO302 := n1_
    have BK294 := n2_
    have HB := n3_
    clear n0_ n1_ n2_ n3_
    (try clear hb)
    (try clear hb2)
    (try clear hk)
    (try clear hi)
    (try clear ho0)
    refine hK.out _ _ ⟨(blk_cell BK294.out 0).trans rfl, (blk_cell BK294.out 1).trans rfl⟩ (fun hHeld => ?_)
    clear hK K
    refine norm_ (a' := ?_) ?_ ?_
    rotate_left
    · show Act.put _ (some 10) _ = _
      simp only [Act.put, List.setIfInBounds_toArray, List.set_cons_zero, List.set_cons_succ, i64_w, i32_w]
      rfl
    refine pure_ (i := 5) (N := some 2) (v := ?_) (a' := ?_) #[true, true, true, true, true, true] rfl rfl (by kernel_rfl) (fun _ _ _ h => h) (Or.inl ⟨by rfl, ?_⟩) ?_ ?_
    rotate_left
    · intro w'
      go_simp
      with_reducible rfl
    rotate_left
    · simp only [Act.put, List.setIfInBounds_toArray, List.set_cons_zero, List.set_cons_succ, i64_w, i32_w]
      rfl
    refine done_ (by kernel_rfl) ?_
    try go_wp2
    go_ret
    exact ⟨_, by first | rfl | (simp [errW_none, errW_some] <;> rfl) | (simp [*, errW_none, errW_some] <;> rfl), by (with_reducible repeat (first | apply Kd.R_alloc | apply Kd.R_drewN | apply Kd.R_drew)); exact Kd.R_mono HO302.out (fun _ hk => trivial), by repeat (first | (with_reducible first | exact HB.out | apply below_alloc | apply pw_below_drewN | apply below_drew1 | refine below_set ?_ GE294.out) | exact HB.out)⟩
  · replace c3 := Bool.eq_false_iff.mpr c3
    subst c3
    have H1 : (some ([] : List (S56))) = some r := by rw [if_neg (show ¬ (false = true) by decide)] at H; exact H
    clear H
    have H := H1
    clear H1
    obtain rfl := Option.some.inj H
    go_enter Tryd.func64, Tryd.ntmps64
    go_wp2_with (first | ((with_reducible refine gate_dst (N := 1) rfl ?_); refine box_event ?hg (N := 1) ?hd (cs := #[.slice A0_0 l0_0.length c0_0, .slice A0_1 l0_1.length c0_1]) (t := 38) ?hr ?_; (case hd => rfl); (case hg => rfl); (case hr => first | (go_simp; done) | (go_simp; rfl)); intro gb294 hg w15 hbox hb; have n0_ := Aside0.mk (below_step (by repeat (first | (with_reducible first | exact HB.out | apply below_alloc | apply pw_below_drewN | apply below_drew1) | exact HB.out)) hb); have n1_ := Aside0.mk (hbox); have n2_ := Aside0.mk ((by rw [hg]; exact (below_size (by repeat (first | (with_reducible first | exact HB.out | apply below_alloc | apply pw_below_drewN | apply below_drew1) | exact HB.out))) : w.heap.size ≤ gb294)); have n3_ := Aside0.mk ((by rw [hg]; exact (below_size (by repeat (first | (with_reducible first | exact HB.out | apply below_alloc | apply pw_below_drewN | apply below_drew1) | exact HB.out))) : w.heap.size ≤ gb294)); clear HB; have HB := n0_; have BK294 := n1_; have GW294 := n2_; have GE294 := n3_; clear n0_ n1_ n2_ n3_; clear hb hbox hg; have hcz16_0 : w15.cell? ⟨gb294, 0, none⟩ = some (.slice A0_0 l0_0.length c0_0) := (blk_cell BK294.out 0).trans rfl; have hcz16_1 : w15.cell? ⟨gb294, 1, none⟩ = some (.slice A0_1 l0_1.length c0_1) := (blk_cell BK294.out 1).trans rfl; have hfz16_0 := blk_frozen BK294.out 0; have hfz16_1 := blk_frozen BK294.out 1) | ((with_reducible refine gate_callee (f := 98) rfl ?_); refine goesL_ (some 4) rfl rfl Tryd.func98 (by kernel_rfl) rfl #[.agg #[.slice A0_0 l0_0.length c0_0, .slice A0_1 l0_1.length c0_1]] rfl (by (try simp only [List.map_toArray, List.map_cons, List.map_nil]); first | done | rfl | (simp only [List.length_drop, List.length_take]; rfl)) ?_; (with_reducible refine (impl_IsShape.calls k _ _ l0_0 _ _ l0_1 false _ ?side1 ?side2 ?side3 ?side4 A2.out).mono ?_); (case side1 => repeat (first | exact (Kd.C_below HR0_0.out HB.out) | (with_reducible refine Kd.C_alloc ?_ _) | (with_reducible refine Kd.C_drewN ?_ _) | (with_reducible refine Kd.C_drew ?_))); (case side2 => exact HC0_0.out); (case side3 => repeat (first | exact (Kd.C_below HR0_1.out HB.out) | (with_reducible refine Kd.C_alloc ?_ _) | (with_reducible refine Kd.C_drewN ?_ _) | (with_reducible refine Kd.C_drew ?_))); (case side4 => exact HC0_1.out); rintro e w17 ⟨rfl, hb⟩; refine ⟨_, rfl, ?_⟩; have n0_ := Aside0.mk (blk_below (g := gb294) (o := .cells #[.slice A0_0 l0_0.length c0_0, .slice A0_1 l0_1.length c0_1] 38 (0, 0)) (by (with_reducible repeat (first | refine blk_drewN ?_ _ | refine blk_drew ?_ | refine blk_alloc ?_ _)); exact BK294.out) hb); have n1_ := Aside0.mk (below_step (by repeat (first | (with_reducible first | exact HB.out | apply below_alloc | apply pw_below_drewN | apply below_drew1 | refine below_set ?_ GE294.out) | exact HB.out)) hb); clear BK294; clear HB; have BK294 := n0_; have HB := n1_; clear n0_ n1_; (try clear hb); (try clear hb2); (try clear hk); (try clear hi)))
    go_ret
    exact ⟨_, by first | rfl | (simp [errW_none, errW_some] <;> rfl) | (simp [*, errW_none, errW_some] <;> rfl), by first | exact Kd.R_nil _ _ _ _ _ | exact Kd.N_nil _ _ _ _ _ | exact Kd.V_nil _ _ _ _ _ | exact Kd.Q_nil _ _ _ _ _ | exact Kd.S_nil _ _ _ _ _, by repeat (first | (with_reducible first | exact HB.out | apply below_alloc | apply pw_below_drewN | apply below_drew1 | refine below_set ?_ GE294.out) | exact HB.out)⟩
def impl_CountStandard.f (k : Nat) (l0_0 : List Int) (l0_1 : List Int) : Option (Int) := (impl_StandardTableaux.f k l0_0 l0_1).bind fun t304 => (some (t304.length : Int))
set_option maxHeartbeats 8000000 in
set_option maxRecDepth 100000 in
theorem impl_CountStandard.calls (k : Nat) (A0_0 : Option Addr) (c0_0 : Nat) (l0_0 : List Int) (A0_1 : Option Addr) (c0_1 : Nat) (l0_1 : List Int) (r : Int) (w : World) (hr0_0 : Kd.C (Kd.int .i64) w A0_0 l0_0.length l0_0) (hc0_0 : l0_0.length ≤ c0_0) (hr0_1 : Kd.C (Kd.int .i64) w A0_1 l0_1.length l0_1) (hc0_1 : l0_1.length ≤ c0_1) (h : impl_CountStandard.f k l0_0 l0_1 = some r) :
    Calls Tryd.prog 20 #[.agg #[.slice A0_0 l0_0.length c0_0, .slice A0_1 l0_1.length c0_1]] w fun e w' => e = .returned (.int .i64 r) ∧ Below w.heap.size w w' := by
  have hu38 := Tryd.underlying38
  have HR0_0 := Aside0.mk hr0_0
  have HC0_0 := Aside0.mk hc0_0
  clear hr0_0 hc0_0
  have HR0_1 := Aside0.mk hr0_1
  have HC0_1 := Aside0.mk hc0_1
  clear hr0_1 hc0_1
  have HB := Aside0.mk (Below.refl w.heap.size w)
  have H : ((impl_StandardTableaux.f k l0_0 l0_1).bind fun t304 => (some (t304.length : Int))) = some r := h
  clear h
  replace H := Option.bind_eq_some_iff.mp H
  obtain ⟨t304, A20, H⟩ := H
  replace H : (some (t304.length : Int)) = some r := H
  have A2 := Aside0.mk A20
  clear A20
  obtain rfl := Option.some.inj H
  go_enter Tryd.func20, Tryd.ntmps20
  go_wp2_with (first | ((with_reducible refine gate_dst (N := 1) rfl ?_); refine box_event ?hg (N := 1) ?hd (cs := #[.slice A0_0 l0_0.length c0_0, .slice A0_1 l0_1.length c0_1]) (t := 38) ?hr ?_; (case hd => rfl); (case hg => rfl); (case hr => first | (go_simp; done) | (go_simp; rfl)); intro gb303 hg w3 hbox hb; have n0_ := Aside0.mk (below_step (by repeat (first | (with_reducible first | exact HB.out | apply below_alloc | apply pw_below_drewN | apply below_drew1) | exact HB.out)) hb); have n1_ := Aside0.mk (hbox); have n2_ := Aside0.mk ((by rw [hg]; exact (below_size (by repeat (first | (with_reducible first | exact HB.out | apply below_alloc | apply pw_below_drewN | apply below_drew1) | exact HB.out))) : w.heap.size ≤ gb303)); have n3_ := Aside0.mk ((by rw [hg]; exact (below_size (by repeat (first | (with_reducible first | exact HB.out | apply below_alloc | apply pw_below_drewN | apply below_drew1) | exact HB.out))) : w.heap.size ≤ gb303)); clear HB; have HB := n0_; have BK303 := n1_; have GW303 := n2_; have GE303 := n3_; clear n0_ n1_ n2_ n3_; clear hb hbox hg; have hcz4_0 : w3.cell? ⟨gb303, 0, none⟩ = some (.slice A0_0 l0_0.length c0_0) := (blk_cell BK303.out 0).trans rfl; have hcz4_1 : w3.cell? ⟨gb303, 1, none⟩ = some (.slice A0_1 l0_1.length c0_1) := (blk_cell BK303.out 1).trans rfl; have hfz4_0 := blk_frozen BK303.out 0; have hfz4_1 := blk_frozen BK303.out 1) | ((with_reducible refine gate_callee (f := 64) rfl ?_); refine goesL_ (some 4) rfl rfl Tryd.func64 (by kernel_rfl) rfl #[.agg #[.slice A0_0 l0_0.length c0_0, .slice A0_1 l0_1.length c0_1]] rfl (by (try simp only [List.map_toArray, List.map_cons, List.map_nil]); first | done | rfl | (simp only [List.length_drop, List.length_take]; rfl)) ?_; (with_reducible refine (impl_StandardTableaux.calls k _ _ l0_0 _ _ l0_1 t304 _ ?side1 ?side2 ?side3 ?side4 A2.out).mono ?_); (case side1 => repeat (first | exact (Kd.C_below HR0_0.out HB.out) | (with_reducible refine Kd.C_alloc ?_ _) | (with_reducible refine Kd.C_drewN ?_ _) | (with_reducible refine Kd.C_drew ?_))); (case side2 => exact HC0_0.out); (case side3 => repeat (first | exact (Kd.C_below HR0_1.out HB.out) | (with_reducible refine Kd.C_alloc ?_ _) | (with_reducible refine Kd.C_drewN ?_ _) | (with_reducible refine Kd.C_drew ?_))); (case side4 => exact HC0_1.out); rintro e w5 ⟨v305, rfl, ho0, hb⟩; refine ⟨_, rfl, ?_⟩; have n0_ := Aside0.mk (Kd.R_lower ho0 (below_size (by repeat (first | (with_reducible first | exact HB.out | apply below_alloc | apply pw_below_drewN | apply below_drew1 | refine below_set ?_ GE303.out) | exact HB.out)))); have n1_ := Aside0.mk (blk_below (g := gb303) (o := .cells #[.slice A0_0 l0_0.length c0_0, .slice A0_1 l0_1.length c0_1] 38 (0, 0)) (by (with_reducible repeat (first | refine blk_drewN ?_ _ | refine blk_drew ?_ | refine blk_alloc ?_ _)); exact BK303.out) hb); have n2_ := Aside0.mk (below_step (by repeat (first | (with_reducible first | exact HB.out | apply below_alloc | apply pw_below_drewN | apply below_drew1 | refine below_set ?_ GE303.out) | exact HB.out)) hb); clear BK303; clear HB; have HO306 := n0_; have BK303 := n1_; have HB := n2_; clear n0_ n1_ n2_; (try clear hb); (try clear hb2); (try clear hk); (try clear hi); (try clear ho0); obtain ⟨Ao6, co6, eo6⟩ := Kd.R_slice HO306.out; subst eo6))
  go_ret
  exact ⟨by first | rfl | (simp [errW_none, errW_some] <;> rfl) | (simp [*, errW_none, errW_some] <;> rfl), by repeat (first | (with_reducible first | exact HB.out | apply below_alloc | apply pw_below_drewN | apply below_drew1 | refine below_set ?_ GE303.out) | exact HB.out)⟩
def laws_eqIntS.l0 : Nat → List Int → List Int → Int → Option (Bool)
  | 0, _, _, _ => none
  | k + 1, x0, x1, x5 => if x5 < (x0.length : Int) then (if 0 ≤ x5 then (if x5 < (x1.length : Int) then (if (rd x0 x5) = (rd x1 x5) then (laws_eqIntS.l0 k x0 x1 (wrap64 (x5 + 1))) else (some false)) else (none)) else (none)) else (some true)
def laws_eqIntS.f (k : Nat) (l0 : List Int) (l1 : List Int) : Option (Bool) := if (l0.length : Int) = (l1.length : Int) then (laws_eqIntS.l0 k l0 l1 0) else (some false)
set_option maxHeartbeats 8000000 in
set_option maxRecDepth 100000 in
theorem laws_eqIntS.calls (k : Nat) (A0 : Option Addr) (c0 : Nat) (l0 : List Int) (A1 : Option Addr) (c1 : Nat) (l1 : List Int) (r : Bool) (w : World) (hr0 : Kd.C (Kd.int .i64) w A0 l0.length l0) (hc0 : l0.length ≤ c0) (hr1 : Kd.C (Kd.int .i64) w A1 l1.length l1) (hc1 : l1.length ≤ c1) (h : laws_eqIntS.f k l0 l1 = some r) :
    Calls Tryd.prog 11 #[.slice A0 l0.length c0, .slice A1 l1.length c1] w fun e w' => e = .returned (.bool r) ∧ Drawn0 w w' := by
  have HR0 := Aside0.mk hr0
  have HC0 := Aside0.mk hc0
  clear hr0 hc0
  have HR1 := Aside0.mk hr1
  have HC1 := Aside0.mk hc1
  clear hr1 hc1
  have H : (if (l0.length : Int) = (l1.length : Int) then (laws_eqIntS.l0 k l0 l1 0) else (some false)) = some r := h
  clear h
  by_cases c3 : (l0.length : Int) = (l1.length : Int)
  · rw [if_pos c3] at H
    have c3b0 : ((l0.length : Int) == (l1.length : Int)) = true := beq_iff_eq.mpr c3
    have c3b1 : ((l0.length : Int) != (l1.length : Int)) = false := bne_eq_false_iff_eq.mpr c3
    have c3b2 : (l0.length == l1.length) = true := by first | simpa using c3 | (simp at c3 ⊢; omega)
    clear c3
    have H' := Aside0.mk H
    clear H
    go_enter Tryd.func11, Tryd.ntmps11
    go_wp2
    repeat (go_quiet (fail); try go_wp2)
    go_loopg [5] k (fun kq v5 w' => ∃ (x5_1 : Int), v5 = .int .i64 x5_1 ∧ Aside0 (laws_eqIntS.l0 kq l0 l1 x5_1 = some r) ∧ Aside0 (kq ≤ k) ∧ Drawn0 w w')
    case atStart => exact ⟨(0), (by first | rfl | (simp; done) | (simp [*]; done)), H', ⟨Nat.le_refl _⟩, by repeat (first | exact Drawn0.refl _ | apply Drawn0.step)⟩
    case round =>
      clear H'
      try clear c1
      try clear p2
      try clear c3
      try clear c3b0
      try clear c3b1
      try clear c3b2
      obtain ⟨x5_1, rfl, HA, HK1, ⟨m1, rfl⟩⟩ := hrel
      cases gk with
      | zero => exact absurd HA.out (by simp [laws_eqIntS.l0])
      | succ k1 =>
        have H := HA.out
        clear HA
        simp only [laws_eqIntS.l0] at H
        by_cases c4 : x5_1 < (l0.length : Int)
        · rw [if_pos c4] at H
          have c4b0 : decide (x5_1 < (l0.length : Int)) = true := decide_eq_true c4
          clear c4
          by_cases c5 : 0 ≤ x5_1
          · rw [if_pos c5] at H
            have c5b0 : decide (0 ≤ x5_1) = true := decide_eq_true c5
            clear c5
            by_cases c6 : x5_1 < (l1.length : Int)
            · rw [if_pos c6] at H
              have c6b0 : decide (x5_1 < (l1.length : Int)) = true := decide_eq_true c6
              clear c6
              by_cases c7 : (rd l0 x5_1) = (rd l1 x5_1)
              · rw [if_pos c7] at H
                have c7b0 : ((rd l0 x5_1) == (rd l1 x5_1)) = true := beq_iff_eq.mpr c7
                have c7b1 : ((rd l0 x5_1) != (rd l1 x5_1)) = false := bne_eq_false_iff_eq.mpr c7
                clear c7
                have H' := Aside0.mk H
                clear H
                have p307 : 0 ≤ (x5_1 : Int) := of_decide_eq_true (by first | (with_reducible assumption) | assumption)
                have q307 : x5_1 < (l0.length : Int) := of_decide_eq_true (by first | (with_reducible assumption) | assumption)
                obtain ⟨ad307, e307, hx307_0⟩ := Kd.at_int HR0.out x5_1 p307 q307
                cases e307
                replace p307 := eq_true p307
                replace q307 := eq_true q307
                have p308 : 0 ≤ (x5_1 : Int) := of_decide_eq_true (by first | (with_reducible assumption) | assumption)
                have q308 : x5_1 < (l1.length : Int) := of_decide_eq_true (by first | (with_reducible assumption) | assumption)
                obtain ⟨ad308, e308, hx308_0⟩ := Kd.at_int HR1.out x5_1 p308 q308
                cases e308
                replace p308 := eq_true p308
                replace q308 := eq_true q308
                go_wp2
                repeat (go_quiet (fail); try go_wp2)
                go_roundg k1
                case measure => have := HK1.out; omega
                case rel => exact ⟨(wrap64 (x5_1 + 1)), (by first | rfl | (simp; done) | (simp [*]; done)), H', ⟨by have := HK1.out; omega⟩, by repeat (first | exact Drawn0.refl _ | apply Drawn0.step)⟩
              · rw [if_neg c7] at H
                have c7b0 : ((rd l0 x5_1) == (rd l1 x5_1)) = false := beq_eq_false_iff_ne.mpr c7
                have c7b1 : ((rd l0 x5_1) != (rd l1 x5_1)) = true := bne_iff_ne.mpr c7
                obtain rfl := Option.some.inj H
                have p307 : 0 ≤ (x5_1 : Int) := of_decide_eq_true (by first | (with_reducible assumption) | assumption)
                have q307 : x5_1 < (l0.length : Int) := of_decide_eq_true (by first | (with_reducible assumption) | assumption)
                obtain ⟨ad307, e307, hx307_0⟩ := Kd.at_int HR0.out x5_1 p307 q307
                cases e307
                replace p307 := eq_true p307
                replace q307 := eq_true q307
                have p308 : 0 ≤ (x5_1 : Int) := of_decide_eq_true (by first | (with_reducible assumption) | assumption)
                have q308 : x5_1 < (l1.length : Int) := of_decide_eq_true (by first | (with_reducible assumption) | assumption)
                obtain ⟨ad308, e308, hx308_0⟩ := Kd.at_int HR1.out x5_1 p308 q308
                cases e308
                replace p308 := eq_true p308
                replace q308 := eq_true q308
                go_wp2
                repeat (go_quiet (fail); try go_wp2)
                go_ret
                exact ⟨by first | rfl | (simp; done) | (simp [*]; done), by repeat (first | exact Drawn0.refl _ | apply Drawn0.step)⟩
            · rw [if_neg c6] at H
              exact absurd H (by simp)
          · rw [if_neg c5] at H
            exact absurd H (by simp)
        · rw [if_neg c4] at H
          have c4b0 : decide (x5_1 < (l0.length : Int)) = false := decide_eq_false c4
          clear c4
          obtain rfl := Option.some.inj H
          go_wp2
          repeat (go_quiet (fail); try go_wp2)
          go_ret
          exact ⟨by first | rfl | (simp; done) | (simp [*]; done), by repeat (first | exact Drawn0.refl _ | apply Drawn0.step)⟩
  · rw [if_neg c3] at H
    have c3b0 : ((l0.length : Int) == (l1.length : Int)) = false := beq_eq_false_iff_ne.mpr c3
    have c3b1 : ((l0.length : Int) != (l1.length : Int)) = true := bne_iff_ne.mpr c3
    have c3b2 : (l0.length == l1.length) = false := by first | simpa using c3 | (simp at c3 ⊢; omega)
    obtain rfl := Option.some.inj H
    go_enter Tryd.func11, Tryd.ntmps11
    go_wp2
    repeat (go_quiet (fail); try go_wp2)
    go_ret
    exact ⟨by first | rfl | (simp; done) | (simp [*]; done), by repeat (first | exact Drawn0.refl _ | apply Drawn0.step)⟩
def laws_eqShape.f (k : Nat) (l0_0 : List Int) (l0_1 : List Int) (l1_0 : List Int) (l1_1 : List Int) : Option (Bool) := (laws_eqIntS.f k l0_0 l1_0).bind fun t311 => (if t311 = true then ((laws_eqIntS.f k l0_1 l1_1).bind fun t312 => (if t312 = true then (some true) else (some false))) else (some false))
set_option maxHeartbeats 8000000 in
set_option maxRecDepth 100000 in
theorem laws_eqShape.calls (k : Nat) (A0_0 : Option Addr) (c0_0 : Nat) (l0_0 : List Int) (A0_1 : Option Addr) (c0_1 : Nat) (l0_1 : List Int) (A1_0 : Option Addr) (c1_0 : Nat) (l1_0 : List Int) (A1_1 : Option Addr) (c1_1 : Nat) (l1_1 : List Int) (r : Bool) (w : World) (hr0_0 : Kd.C (Kd.int .i64) w A0_0 l0_0.length l0_0) (hc0_0 : l0_0.length ≤ c0_0) (hr0_1 : Kd.C (Kd.int .i64) w A0_1 l0_1.length l0_1) (hc0_1 : l0_1.length ≤ c0_1) (hr1_0 : Kd.C (Kd.int .i64) w A1_0 l1_0.length l1_0) (hc1_0 : l1_0.length ≤ c1_0) (hr1_1 : Kd.C (Kd.int .i64) w A1_1 l1_1.length l1_1) (hc1_1 : l1_1.length ≤ c1_1) (h : laws_eqShape.f k l0_0 l0_1 l1_0 l1_1 = some r) :
    Calls Tryd.prog 21 #[.agg #[.slice A0_0 l0_0.length c0_0, .slice A0_1 l0_1.length c0_1], .agg #[.slice A1_0 l1_0.length c1_0, .slice A1_1 l1_1.length c1_1]] w fun e w' => e = .returned (.bool r) ∧ Below w.heap.size w w' := by
  have hu38 := Tryd.underlying38
  have HR0_0 := Aside0.mk hr0_0
  have HC0_0 := Aside0.mk hc0_0
  clear hr0_0 hc0_0
  have HR0_1 := Aside0.mk hr0_1
  have HC0_1 := Aside0.mk hc0_1
  clear hr0_1 hc0_1
  have HR1_0 := Aside0.mk hr1_0
  have HC1_0 := Aside0.mk hc1_0
  clear hr1_0 hc1_0
  have HR1_1 := Aside0.mk hr1_1
  have HC1_1 := Aside0.mk hc1_1
  clear hr1_1 hc1_1
  have HB := Aside0.mk (Below.refl w.heap.size w)
  have H : ((laws_eqIntS.f k l0_0 l1_0).bind fun t311 => (if t311 = true then ((laws_eqIntS.f k l0_1 l1_1).bind fun t312 => (if t312 = true then (some true) else (some false))) else (some false))) = some r := h
  clear h
  replace H := Option.bind_eq_some_iff.mp H
  obtain ⟨t311, A30, H⟩ := H
  replace H : (if t311 = true then ((laws_eqIntS.f k l0_1 l1_1).bind fun t312 => (if t312 = true then (some true) else (some false))) else (some false)) = some r := H
  have A3 := Aside0.mk A30
  clear A30
  by_cases c4 : t311 = true
  · subst c4
    have H1 : ((laws_eqIntS.f k l0_1 l1_1).bind fun t312 => (if t312 = true then (some true) else (some false))) = some r := by rw [if_pos rfl] at H; exact H
    clear H
    have H := H1
    clear H1
    replace H := Option.bind_eq_some_iff.mp H
    obtain ⟨t312, A50, H⟩ := H
    replace H : (if t312 = true then (some true) else (some false)) = some r := H
    have A5 := Aside0.mk A50
    clear A50
    by_cases c6 : t312 = true
    · subst c6
      have H1 : (some true) = some r := by rw [if_pos rfl] at H; exact H
      clear H
      have H := H1
      clear H1
      obtain rfl := Option.some.inj H
      go_enter Tryd.func21, Tryd.ntmps21
      go_wp2_with (first | ((with_reducible refine gate_dst (N := 2) rfl ?_); refine box_event ?hg (N := 2) ?hd (cs := #[.slice A0_0 l0_0.length c0_0, .slice A0_1 l0_1.length c0_1]) (t := 38) ?hr ?_; (case hd => rfl); (case hg => rfl); (case hr => first | (go_simp; done) | (go_simp; rfl)); intro gb309 hg w7 hbox hb; have n0_ := Aside0.mk (below_step (by repeat (first | (with_reducible first | exact HB.out | apply below_alloc | apply pw_below_drewN | apply below_drew1) | exact HB.out)) hb); have n1_ := Aside0.mk (hbox); have n2_ := Aside0.mk ((by rw [hg]; exact (below_size (by repeat (first | (with_reducible first | exact HB.out | apply below_alloc | apply pw_below_drewN | apply below_drew1) | exact HB.out))) : w.heap.size ≤ gb309)); have n3_ := Aside0.mk ((by rw [hg]; exact (below_size (by repeat (first | (with_reducible first | exact HB.out | apply below_alloc | apply pw_below_drewN | apply below_drew1) | exact HB.out))) : w.heap.size ≤ gb309)); clear HB; have HB := n0_; have BK309 := n1_; have GW309 := n2_; have GE309 := n3_; clear n0_ n1_ n2_ n3_; clear hb hbox hg) | ((with_reducible refine gate_dst (N := 3) rfl ?_); refine box_event ?hg (N := 3) ?hd (cs := #[.slice A1_0 l1_0.length c1_0, .slice A1_1 l1_1.length c1_1]) (t := 38) ?hr ?_; (case hd => rfl); (case hg => rfl); (case hr => first | (go_simp; done) | (go_simp; rfl)); intro gb310 hg w8 hbox hb; have n0_ := Aside0.mk (blk_below (g := gb309) (o := .cells #[.slice A0_0 l0_0.length c0_0, .slice A0_1 l0_1.length c0_1] 38 (0, 0)) (by (with_reducible repeat (first | refine blk_drewN ?_ _ | refine blk_drew ?_ | refine blk_alloc ?_ _)); exact BK309.out) hb); have n1_ := Aside0.mk (below_step (by repeat (first | (with_reducible first | exact HB.out | apply below_alloc | apply pw_below_drewN | apply below_drew1 | refine below_set ?_ GE309.out) | exact HB.out)) hb); have n2_ := Aside0.mk (hbox); have n3_ := Aside0.mk ((by rw [hg]; exact (below_size (by repeat (first | (with_reducible first | exact HB.out | apply below_alloc | apply pw_below_drewN | apply below_drew1 | refine below_set ?_ GE309.out) | exact HB.out))) : w.heap.size ≤ gb310)); have n4_ := Aside0.mk ((by rw [hg]; exact (below_size (by repeat (first | (with_reducible first | exact HB.out | apply below_alloc | apply pw_below_drewN | apply below_drew1 | refine below_set ?_ GE309.out) | exact HB.out))) : w.heap.size ≤ gb310)); have n5_ := Aside0.mk ((by rw [hg]; exact Nat.ne_of_lt (blk_lt (g := gb309) (o := .cells #[.slice A0_0 l0_0.length c0_0, .slice A0_1 l0_1.length c0_1] 38 (0, 0)) (by (with_reducible repeat (first | refine blk_drewN ?_ _ | refine blk_drew ?_ | refine blk_alloc ?_ _)); exact BK309.out)) : gb309 ≠ gb310)); have n6_ := Aside0.mk ((by rw [hg]; exact Nat.ne_of_gt (blk_lt (g := gb309) (o := .cells #[.slice A0_0 l0_0.length c0_0, .slice A0_1 l0_1.length c0_1] 38 (0, 0)) (by (with_reducible repeat (first | refine blk_drewN ?_ _ | refine blk_drew ?_ | refine blk_alloc ?_ _)); exact BK309.out)) : gb310 ≠ gb309)); clear BK309; clear HB; have BK309 := n0_; have HB := n1_; have BK310 := n2_; have GW310 := n3_; have GE310 := n4_; have NB309_310 := n5_; have NB310_309 := n6_; clear n0_ n1_ n2_ n3_ n4_ n5_ n6_; clear hb hbox hg; have hnb9 := NB309_310.out; have hnc9 := NB310_309.out; have hcz10_0 : w8.cell? ⟨gb309, 0, none⟩ = some (.slice A0_0 l0_0.length c0_0) := (blk_cell BK309.out 0).trans rfl; have hcz10_1 : w8.cell? ⟨gb309, 1, none⟩ = some (.slice A0_1 l0_1.length c0_1) := (blk_cell BK309.out 1).trans rfl; have hfz10_0 := blk_frozen BK309.out 0; have hfz10_1 := blk_frozen BK309.out 1; have hcz11_0 : w8.cell? ⟨gb310, 0, none⟩ = some (.slice A1_0 l1_0.length c1_0) := (blk_cell BK310.out 0).trans rfl; have hcz11_1 : w8.cell? ⟨gb310, 1, none⟩ = some (.slice A1_1 l1_1.length c1_1) := (blk_cell BK310.out 1).trans rfl; have hfz11_0 := blk_frozen BK310.out 0; have hfz11_1 := blk_frozen BK310.out 1) | ((with_reducible refine gate_callee (f := 11) rfl ?_); refine goesL_ (some 9) rfl rfl Tryd.func11 (by kernel_rfl) rfl #[.slice A0_0 l0_0.length c0_0, .slice A1_0 l1_0.length c1_0] rfl (by (try simp only [List.map_toArray, List.map_cons, List.map_nil]); first | done | rfl | (simp only [List.length_drop, List.length_take]; rfl)) ?_; (with_reducible refine (laws_eqIntS.calls k _ _ l0_0 _ _ l1_0 true _ ?side1 ?side2 ?side3 ?side4 A3.out).mono ?_); (case side1 => repeat (first | exact (Kd.C_below HR0_0.out HB.out) | (with_reducible refine Kd.C_alloc ?_ _) | (with_reducible refine Kd.C_drewN ?_ _) | (with_reducible refine Kd.C_drew ?_))); (case side2 => exact HC0_0.out); (case side3 => repeat (first | exact (Kd.C_below HR1_0.out HB.out) | (with_reducible refine Kd.C_alloc ?_ _) | (with_reducible refine Kd.C_drewN ?_ _) | (with_reducible refine Kd.C_drew ?_))); (case side4 => exact HC1_0.out); rintro e w' ⟨rfl, ⟨nd, rfl⟩⟩; refine ⟨_, rfl, ?_⟩) | ((with_reducible refine gate_callee (f := 11) rfl ?_); refine goesL_ (some 15) rfl rfl Tryd.func11 (by kernel_rfl) rfl #[.slice A0_1 l0_1.length c0_1, .slice A1_1 l1_1.length c1_1] rfl (by (try simp only [List.map_toArray, List.map_cons, List.map_nil]); first | done | rfl | (simp only [List.length_drop, List.length_take]; rfl)) ?_; (with_reducible refine (laws_eqIntS.calls k _ _ l0_1 _ _ l1_1 true _ ?side1 ?side2 ?side3 ?side4 A5.out).mono ?_); (case side1 => repeat (first | exact (Kd.C_below HR0_1.out (by repeat (first | (with_reducible first | exact HB.out | apply below_alloc | apply pw_below_drewN | apply below_drew1 | refine below_set ?_ GE309.out | refine below_set ?_ GE310.out) | exact HB.out))) | (with_reducible refine Kd.C_alloc ?_ _) | (with_reducible refine Kd.C_drewN ?_ _) | (with_reducible refine Kd.C_drew ?_))); (case side2 => exact HC0_1.out); (case side3 => repeat (first | exact (Kd.C_below HR1_1.out (by repeat (first | (with_reducible first | exact HB.out | apply below_alloc | apply pw_below_drewN | apply below_drew1 | refine below_set ?_ GE309.out | refine below_set ?_ GE310.out) | exact HB.out))) | (with_reducible refine Kd.C_alloc ?_ _) | (with_reducible refine Kd.C_drewN ?_ _) | (with_reducible refine Kd.C_drew ?_))); (case side4 => exact HC1_1.out); rintro e w' ⟨rfl, ⟨nd, rfl⟩⟩; refine ⟨_, rfl, ?_⟩))
      go_ret
      exact ⟨by first | rfl | (simp [errW_none, errW_some] <;> rfl) | (simp [*, errW_none, errW_some] <;> rfl), by repeat (first | (with_reducible first | exact HB.out | apply below_alloc | apply pw_below_drewN | apply below_drew1 | refine below_set ?_ GE309.out | refine below_set ?_ GE310.out) | exact HB.out)⟩
    · replace c6 := Bool.eq_false_iff.mpr c6
      subst c6
      have H1 : (some false) = some r := by rw [if_neg (show ¬ (false = true) by decide)] at H; exact H
      clear H
      have H := H1
      clear H1
      obtain rfl := Option.some.inj H
      go_enter Tryd.func21, Tryd.ntmps21
      go_wp2_with (first | ((with_reducible refine gate_dst (N := 2) rfl ?_); refine box_event ?hg (N := 2) ?hd (cs := #[.slice A0_0 l0_0.length c0_0, .slice A0_1 l0_1.length c0_1]) (t := 38) ?hr ?_; (case hd => rfl); (case hg => rfl); (case hr => first | (go_simp; done) | (go_simp; rfl)); intro gb309 hg w12 hbox hb; have n0_ := Aside0.mk (below_step (by repeat (first | (with_reducible first | exact HB.out | apply below_alloc | apply pw_below_drewN | apply below_drew1) | exact HB.out)) hb); have n1_ := Aside0.mk (hbox); have n2_ := Aside0.mk ((by rw [hg]; exact (below_size (by repeat (first | (with_reducible first | exact HB.out | apply below_alloc | apply pw_below_drewN | apply below_drew1) | exact HB.out))) : w.heap.size ≤ gb309)); have n3_ := Aside0.mk ((by rw [hg]; exact (below_size (by repeat (first | (with_reducible first | exact HB.out | apply below_alloc | apply pw_below_drewN | apply below_drew1) | exact HB.out))) : w.heap.size ≤ gb309)); clear HB; have HB := n0_; have BK309 := n1_; have GW309 := n2_; have GE309 := n3_; clear n0_ n1_ n2_ n3_; clear hb hbox hg) | ((with_reducible refine gate_dst (N := 3) rfl ?_); refine box_event ?hg (N := 3) ?hd (cs := #[.slice A1_0 l1_0.length c1_0, .slice A1_1 l1_1.length c1_1]) (t := 38) ?hr ?_; (case hd => rfl); (case hg => rfl); (case hr => first | (go_simp; done) | (go_simp; rfl)); intro gb310 hg w13 hbox hb; have n0_ := Aside0.mk (blk_below (g := gb309) (o := .cells #[.slice A0_0 l0_0.length c0_0, .slice A0_1 l0_1.length c0_1] 38 (0, 0)) (by (with_reducible repeat (first | refine blk_drewN ?_ _ | refine blk_drew ?_ | refine blk_alloc ?_ _)); exact BK309.out) hb); have n1_ := Aside0.mk (below_step (by repeat (first | (with_reducible first | exact HB.out | apply below_alloc | apply pw_below_drewN | apply below_drew1 | refine below_set ?_ GE309.out) | exact HB.out)) hb); have n2_ := Aside0.mk (hbox); have n3_ := Aside0.mk ((by rw [hg]; exact (below_size (by repeat (first | (with_reducible first | exact HB.out | apply below_alloc | apply pw_below_drewN | apply below_drew1 | refine below_set ?_ GE309.out) | exact HB.out))) : w.heap.size ≤ gb310)); have n4_ := Aside0.mk ((by rw [hg]; exact (below_size (by repeat (first | (with_reducible first | exact HB.out | apply below_alloc | apply pw_below_drewN | apply below_drew1 | refine below_set ?_ GE309.out) | exact HB.out))) : w.heap.size ≤ gb310)); have n5_ := Aside0.mk ((by rw [hg]; exact Nat.ne_of_lt (blk_lt (g := gb309) (o := .cells #[.slice A0_0 l0_0.length c0_0, .slice A0_1 l0_1.length c0_1] 38 (0, 0)) (by (with_reducible repeat (first | refine blk_drewN ?_ _ | refine blk_drew ?_ | refine blk_alloc ?_ _)); exact BK309.out)) : gb309 ≠ gb310)); have n6_ := Aside0.mk ((by rw [hg]; exact Nat.ne_of_gt (blk_lt (g := gb309) (o := .cells #[.slice A0_0 l0_0.length c0_0, .slice A0_1 l0_1.length c0_1] 38 (0, 0)) (by (with_reducible repeat (first | refine blk_drewN ?_ _ | refine blk_drew ?_ | refine blk_alloc ?_ _)); exact BK309.out)) : gb310 ≠ gb309)); clear BK309; clear HB; have BK309 := n0_; have HB := n1_; have BK310 := n2_; have GW310 := n3_; have GE310 := n4_; have NB309_310 := n5_; have NB310_309 := n6_; clear n0_ n1_ n2_ n3_ n4_ n5_ n6_; clear hb hbox hg; have hnb14 := NB309_310.out; have hnc14 := NB310_309.out; have hcz15_0 : w13.cell? ⟨gb309, 0, none⟩ = some (.slice A0_0 l0_0.length c0_0) := (blk_cell BK309.out 0).trans rfl; have hcz15_1 : w13.cell? ⟨gb309, 1, none⟩ = some (.slice A0_1 l0_1.length c0_1) := (blk_cell BK309.out 1).trans rfl; have hfz15_0 := blk_frozen BK309.out 0; have hfz15_1 := blk_frozen BK309.out 1; have hcz16_0 : w13.cell? ⟨gb310, 0, none⟩ = some (.slice A1_0 l1_0.length c1_0) := (blk_cell BK310.out 0).trans rfl; have hcz16_1 : w13.cell? ⟨gb310, 1, none⟩ = some (.slice A1_1 l1_1.length c1_1) := (blk_cell BK310.out 1).trans rfl; have hfz16_0 := blk_frozen BK310.out 0; have hfz16_1 := blk_frozen BK310.out 1) | ((with_reducible refine gate_callee (f := 11) rfl ?_); refine goesL_ (some 9) rfl rfl Tryd.func11 (by kernel_rfl) rfl #[.slice A0_0 l0_0.length c0_0, .slice A1_0 l1_0.length c1_0] rfl (by (try simp only [List.map_toArray, List.map_cons, List.map_nil]); first | done | rfl | (simp only [List.length_drop, List.length_take]; rfl)) ?_; (with_reducible refine (laws_eqIntS.calls k _ _ l0_0 _ _ l1_0 true _ ?side1 ?side2 ?side3 ?side4 A3.out).mono ?_); (case side1 => repeat (first | exact (Kd.C_below HR0_0.out HB.out) | (with_reducible refine Kd.C_alloc ?_ _) | (with_reducible refine Kd.C_drewN ?_ _) | (with_reducible refine Kd.C_drew ?_))); (case side2 => exact HC0_0.out); (case side3 => repeat (first | exact (Kd.C_below HR1_0.out HB.out) | (with_reducible refine Kd.C_alloc ?_ _) | (with_reducible refine Kd.C_drewN ?_ _) | (with_reducible refine Kd.C_drew ?_))); (case side4 => exact HC1_0.out); rintro e w' ⟨rfl, ⟨nd, rfl⟩⟩; refine ⟨_, rfl, ?_⟩) | ((with_reducible refine gate_callee (f := 11) rfl ?_); refine goesL_ (some 15) rfl rfl Tryd.func11 (by kernel_rfl) rfl #[.slice A0_1 l0_1.length c0_1, .slice A1_1 l1_1.length c1_1] rfl (by (try simp only [List.map_toArray, List.map_cons, List.map_nil]); first | done | rfl | (simp only [List.length_drop, List.length_take]; rfl)) ?_; (with_reducible refine (laws_eqIntS.calls k _ _ l0_1 _ _ l1_1 false _ ?side1 ?side2 ?side3 ?side4 A5.out).mono ?_); (case side1 => repeat (first | exact (Kd.C_below HR0_1.out (by repeat (first | (with_reducible first | exact HB.out | apply below_alloc | apply pw_below_drewN | apply below_drew1 | refine below_set ?_ GE309.out | refine below_set ?_ GE310.out) | exact HB.out))) | (with_reducible refine Kd.C_alloc ?_ _) | (with_reducible refine Kd.C_drewN ?_ _) | (with_reducible refine Kd.C_drew ?_))); (case side2 => exact HC0_1.out); (case side3 => repeat (first | exact (Kd.C_below HR1_1.out (by repeat (first | (with_reducible first | exact HB.out | apply below_alloc | apply pw_below_drewN | apply below_drew1 | refine below_set ?_ GE309.out | refine below_set ?_ GE310.out) | exact HB.out))) | (with_reducible refine Kd.C_alloc ?_ _) | (with_reducible refine Kd.C_drewN ?_ _) | (with_reducible refine Kd.C_drew ?_))); (case side4 => exact HC1_1.out); rintro e w' ⟨rfl, ⟨nd, rfl⟩⟩; refine ⟨_, rfl, ?_⟩))
      go_ret
      exact ⟨by first | rfl | (simp [errW_none, errW_some] <;> rfl) | (simp [*, errW_none, errW_some] <;> rfl), by repeat (first | (with_reducible first | exact HB.out | apply below_alloc | apply pw_below_drewN | apply below_drew1 | refine below_set ?_ GE309.out | refine below_set ?_ GE310.out) | exact HB.out)⟩
  · replace c4 := Bool.eq_false_iff.mpr c4
    subst c4
    have H1 : (some false) = some r := by rw [if_neg (show ¬ (false = true) by decide)] at H; exact H
    clear H
    have H := H1
    clear H1
    obtain rfl := Option.some.inj H
    go_enter Tryd.func21, Tryd.ntmps21
    go_wp2_with (first | ((with_reducible refine gate_dst (N := 2) rfl ?_); refine box_event ?hg (N := 2) ?hd (cs := #[.slice A0_0 l0_0.length c0_0, .slice A0_1 l0_1.length c0_1]) (t := 38) ?hr ?_; (case hd => rfl); (case hg => rfl); (case hr => first | (go_simp; done) | (go_simp; rfl)); intro gb309 hg w17 hbox hb; have n0_ := Aside0.mk (below_step (by repeat (first | (with_reducible first | exact HB.out | apply below_alloc | apply pw_below_drewN | apply below_drew1) | exact HB.out)) hb); have n1_ := Aside0.mk (hbox); have n2_ := Aside0.mk ((by rw [hg]; exact (below_size (by repeat (first | (with_reducible first | exact HB.out | apply below_alloc | apply pw_below_drewN | apply below_drew1) | exact HB.out))) : w.heap.size ≤ gb309)); have n3_ := Aside0.mk ((by rw [hg]; exact (below_size (by repeat (first | (with_reducible first | exact HB.out | apply below_alloc | apply pw_below_drewN | apply below_drew1) | exact HB.out))) : w.heap.size ≤ gb309)); clear HB; have HB := n0_; have BK309 := n1_; have GW309 := n2_; have GE309 := n3_; clear n0_ n1_ n2_ n3_; clear hb hbox hg) | ((with_reducible refine gate_dst (N := 3) rfl ?_); refine box_event ?hg (N := 3) ?hd (cs := #[.slice A1_0 l1_0.length c1_0, .slice A1_1 l1_1.length c1_1]) (t := 38) ?hr ?_; (case hd => rfl); (case hg => rfl); (case hr => first | (go_simp; done) | (go_simp; rfl)); intro gb310 hg w18 hbox hb; have n0_ := Aside0.mk (blk_below (g := gb309) (o := .cells #[.slice A0_0 l0_0.length c0_0, .slice A0_1 l0_1.length c0_1] 38 (0, 0)) (by (with_reducible repeat (first | refine blk_drewN ?_ _ | refine blk_drew ?_ | refine blk_alloc ?_ _)); exact BK309.out) hb); have n1_ := Aside0.mk (below_step (by repeat (first | (with_reducible first | exact HB.out | apply below_alloc | apply pw_below_drewN | apply below_drew1 | refine below_set ?_ GE309.out) | exact HB.out)) hb); have n2_ := Aside0.mk (hbox); have n3_ := Aside0.mk ((by rw [hg]; exact (below_size (by repeat (first | (with_reducible first | exact HB.out | apply below_alloc | apply pw_below_drewN | apply below_drew1 | refine below_set ?_ GE309.out) | exact HB.out))) : w.heap.size ≤ gb310)); have n4_ := Aside0.mk ((by rw [hg]; exact (below_size (by repeat (first | (with_reducible first | exact HB.out | apply below_alloc | apply pw_below_drewN | apply below_drew1 | refine below_set ?_ GE309.out) | exact HB.out))) : w.heap.size ≤ gb310)); have n5_ := Aside0.mk ((by rw [hg]; exact Nat.ne_of_lt (blk_lt (g := gb309) (o := .cells #[.slice A0_0 l0_0.length c0_0, .slice A0_1 l0_1.length c0_1] 38 (0, 0)) (by (with_reducible repeat (first | refine blk_drewN ?_ _ | refine blk_drew ?_ | refine blk_alloc ?_ _)); exact BK309.out)) : gb309 ≠ gb310)); have n6_ := Aside0.mk ((by rw [hg]; exact Nat.ne_of_gt (blk_lt (g := gb309) (o := .cells #[.slice A0_0 l0_0.length c0_0, .slice A0_1 l0_1.length c0_1] 38 (0, 0)) (by (with_reducible repeat (first | refine blk_drewN ?_ _ | refine blk_drew ?_ | refine blk_alloc ?_ _)); exact BK309.out)) : gb310 ≠ gb309)); clear BK309; clear HB; have BK309 := n0_; have HB := n1_; have BK310 := n2_; have GW310 := n3_; have GE310 := n4_; have NB309_310 := n5_; have NB310_309 := n6_; clear n0_ n1_ n2_ n3_ n4_ n5_ n6_; clear hb hbox hg; have hnb19 := NB309_310.out; have hnc19 := NB310_309.out; have hcz20_0 : w18.cell? ⟨gb309, 0, none⟩ = some (.slice A0_0 l0_0.length c0_0) := (blk_cell BK309.out 0).trans rfl; have hcz20_1 : w18.cell? ⟨gb309, 1, none⟩ = some (.slice A0_1 l0_1.length c0_1) := (blk_cell BK309.out 1).trans rfl; have hfz20_0 := blk_frozen BK309.out 0; have hfz20_1 := blk_frozen BK309.out 1; have hcz21_0 : w18.cell? ⟨gb310, 0, none⟩ = some (.slice A1_0 l1_0.length c1_0) := (blk_cell BK310.out 0).trans rfl; have hcz21_1 : w18.cell? ⟨gb310, 1, none⟩ = some (.slice A1_1 l1_1.length c1_1) := (blk_cell BK310.out 1).trans rfl; have hfz21_0 := blk_frozen BK310.out 0; have hfz21_1 := blk_frozen BK310.out 1) | ((with_reducible refine gate_callee (f := 11) rfl ?_); refine goesL_ (some 9) rfl rfl Tryd.func11 (by kernel_rfl) rfl #[.slice A0_0 l0_0.length c0_0, .slice A1_0 l1_0.length c1_0] rfl (by (try simp only [List.map_toArray, List.map_cons, List.map_nil]); first | done | rfl | (simp only [List.length_drop, List.length_take]; rfl)) ?_; (with_reducible refine (laws_eqIntS.calls k _ _ l0_0 _ _ l1_0 false _ ?side1 ?side2 ?side3 ?side4 A3.out).mono ?_); (case side1 => repeat (first | exact (Kd.C_below HR0_0.out HB.out) | (with_reducible refine Kd.C_alloc ?_ _) | (with_reducible refine Kd.C_drewN ?_ _) | (with_reducible refine Kd.C_drew ?_))); (case side2 => exact HC0_0.out); (case side3 => repeat (first | exact (Kd.C_below HR1_0.out HB.out) | (with_reducible refine Kd.C_alloc ?_ _) | (with_reducible refine Kd.C_drewN ?_ _) | (with_reducible refine Kd.C_drew ?_))); (case side4 => exact HC1_0.out); rintro e w' ⟨rfl, ⟨nd, rfl⟩⟩; refine ⟨_, rfl, ?_⟩))
    go_ret
    exact ⟨by first | rfl | (simp [errW_none, errW_some] <;> rfl) | (simp [*, errW_none, errW_some] <;> rfl), by repeat (first | (with_reducible first | exact HB.out | apply below_alloc | apply pw_below_drewN | apply below_drew1 | refine below_set ?_ GE309.out | refine below_set ?_ GE310.out) | exact HB.out)⟩
def laws_FnExactCountStandard.f (k : Nat) (l0_0 : List Int) (l0_1 : List Int) : Option (Bool) := (laws_szShape.f l0_0 l0_1 1048576).bind fun t314 => (if t314 < 0 then (some true) else ((laws_toShape.f k l0_0 l0_1).bind fun bt315 => ((spec_CountStandard.f k bt315.1 bt315.2).bind fun t321 => ((laws_toShape.f k l0_0 l0_1).bind fun bt322 => ((impl_CountStandard.f k bt322.1 bt322.2).bind fun t329 => (if t329 = t321 then ((laws_toShape.f k l0_0 l0_1).bind fun bt330 => ((laws_eqShape.f k bt322.1 bt322.2 bt330.1 bt330.2).bind fun t336 => (if t336 = true then (some true) else (some false)))) else (some false)))))))
set_option maxHeartbeats 8000000 in
set_option maxRecDepth 100000 in
theorem laws_FnExactCountStandard.calls (k : Nat) (A0_0 : Option Addr) (c0_0 : Nat) (l0_0 : List Int) (A0_1 : Option Addr) (c0_1 : Nat) (l0_1 : List Int) (r : Bool) (w : World) (hr0_0 : Kd.C (Kd.int .i64) w A0_0 l0_0.length l0_0) (hc0_0 : l0_0.length ≤ c0_0) (hr0_1 : Kd.C (Kd.int .i64) w A0_1 l0_1.length l0_1) (hc0_1 : l0_1.length ≤ c0_1) (h : laws_FnExactCountStandard.f k l0_0 l0_1 = some r) :
    Calls Tryd.prog 5 #[.agg #[.slice A0_0 l0_0.length c0_0, .slice A0_1 l0_1.length c0_1]] w fun e w' => e = .returned (.bool r) ∧ Below w.heap.size w w' := by
  have hu35 := Tryd.underlying35
  have hu38 := Tryd.underlying38
  have HR0_0 := Aside0.mk hr0_0
  have HC0_0 := Aside0.mk hc0_0
  clear hr0_0 hc0_0
  have HR0_1 := Aside0.mk hr0_1
  have HC0_1 := Aside0.mk hc0_1
  clear hr0_1 hc0_1
  have HB := Aside0.mk (Below.refl w.heap.size w)
  have H : ((laws_szShape.f l0_0 l0_1 1048576).bind fun t314 => (if t314 < 0 then (some true) else ((laws_toShape.f k l0_0 l0_1).bind fun bt315 => ((spec_CountStandard.f k bt315.1 bt315.2).bind fun t321 => ((laws_toShape.f k l0_0 l0_1).bind fun bt322 => ((impl_CountStandard.f k bt322.1 bt322.2).bind fun t329 => (if t329 = t321 then ((laws_toShape.f k l0_0 l0_1).bind fun bt330 => ((laws_eqShape.f k bt322.1 bt322.2 bt330.1 bt330.2).bind fun t336 => (if t336 = true then (some true) else (some false)))) else (some false)))))))) = some r := h
  clear h
  replace H := Option.bind_eq_some_iff.mp H
  obtain ⟨t314, A20, H⟩ := H
  replace H : (if t314 < 0 then (some true) else ((laws_toShape.f k l0_0 l0_1).bind fun bt315 => ((spec_CountStandard.f k bt315.1 bt315.2).bind fun t321 => ((laws_toShape.f k l0_0 l0_1).bind fun bt322 => ((impl_CountStandard.f k bt322.1 bt322.2).bind fun t329 => (if t329 = t321 then ((laws_toShape.f k l0_0 l0_1).bind fun bt330 => ((laws_eqShape.f k bt322.1 bt322.2 bt330.1 bt330.2).bind fun t336 => (if t336 = true then (some true) else (some false)))) else (some false))))))) = some r := H
  have A2 := Aside0.mk A20
  clear A20
  by_cases c3 : t314 < 0
  · rw [if_pos c3] at H
    have c3b0 : decide (t314 < 0) = true := decide_eq_true c3
    clear c3
    obtain rfl := Option.some.inj H
    go_enter Tryd.func5, Tryd.ntmps5
    go_wp2_with (first | ((with_reducible refine gate_dst (N := 1) rfl ?_); refine box_event ?hg (N := 1) ?hd (cs := #[.slice A0_0 l0_0.length c0_0, .slice A0_1 l0_1.length c0_1]) (t := 35) ?hr ?_; (case hd => rfl); (case hg => rfl); (case hr => first | (go_simp; done) | (go_simp; rfl)); intro gb313 hg w4 hbox hb; have n0_ := Aside0.mk (below_step (by repeat (first | (with_reducible first | exact HB.out | apply below_alloc | apply pw_below_drewN | apply below_drew1) | exact HB.out)) hb); have n1_ := Aside0.mk (hbox); have n2_ := Aside0.mk ((by rw [hg]; exact (below_size (by repeat (first | (with_reducible first | exact HB.out | apply below_alloc | apply pw_below_drewN | apply below_drew1) | exact HB.out))) : w.heap.size ≤ gb313)); have n3_ := Aside0.mk ((by rw [hg]; exact (below_size (by repeat (first | (with_reducible first | exact HB.out | apply below_alloc | apply pw_below_drewN | apply below_drew1) | exact HB.out))) : w.heap.size ≤ gb313)); clear HB; have HB := n0_; have BK313 := n1_; have GW313 := n2_; have GE313 := n3_; clear n0_ n1_ n2_ n3_; clear hb hbox hg; have hcz5_0 : w4.cell? ⟨gb313, 0, none⟩ = some (.slice A0_0 l0_0.length c0_0) := (blk_cell BK313.out 0).trans rfl; have hcz5_1 : w4.cell? ⟨gb313, 1, none⟩ = some (.slice A0_1 l0_1.length c0_1) := (blk_cell BK313.out 1).trans rfl; have hfz5_0 := blk_frozen BK313.out 0; have hfz5_1 := blk_frozen BK313.out 1) | ((with_reducible refine gate_callee (f := 17) rfl ?_); refine goesL_ (some 9) rfl rfl Tryd.func17 (by kernel_rfl) rfl #[.agg #[.slice A0_0 l0_0.length c0_0, .slice A0_1 l0_1.length c0_1], .int .i64 1048576] rfl (by (try simp only [List.map_toArray, List.map_cons, List.map_nil]); first | done | rfl | (simp only [List.length_drop, List.length_take]; rfl)) ?_; (with_reducible refine (laws_szShape.calls _ _ l0_0 _ _ l0_1 1048576 t314 _ ?side1 ?side2 ?side3 ?side4 A2.out).mono ?_); (case side1 => repeat (first | exact (Kd.C_below HR0_0.out HB.out) | (with_reducible refine Kd.C_alloc ?_ _) | (with_reducible refine Kd.C_drewN ?_ _) | (with_reducible refine Kd.C_drew ?_))); (case side2 => exact HC0_0.out); (case side3 => repeat (first | exact (Kd.C_below HR0_1.out HB.out) | (with_reducible refine Kd.C_alloc ?_ _) | (with_reducible refine Kd.C_drewN ?_ _) | (with_reducible refine Kd.C_drew ?_))); (case side4 => exact HC0_1.out); rintro e w6 ⟨rfl, hb⟩; refine ⟨_, rfl, ?_⟩; have n0_ := Aside0.mk (blk_below (g := gb313) (o := .cells #[.slice A0_0 l0_0.length c0_0, .slice A0_1 l0_1.length c0_1] 35 (0, 0)) (by (with_reducible repeat (first | refine blk_drewN ?_ _ | refine blk_drew ?_ | refine blk_alloc ?_ _)); exact BK313.out) hb); have n1_ := Aside0.mk (below_step (by repeat (first | (with_reducible first | exact HB.out | apply below_alloc | apply pw_below_drewN | apply below_drew1 | refine below_set ?_ GE313.out) | exact HB.out)) hb); clear BK313; clear HB; have BK313 := n0_; have HB := n1_; clear n0_ n1_; (try clear hb); (try clear hb2); (try clear hk); (try clear hi)))
    go_ret
    exact ⟨by first | rfl | (simp [errW_none, errW_some] <;> rfl) | (simp [*, errW_none, errW_some] <;> rfl), by repeat (first | (with_reducible first | exact HB.out | apply below_alloc | apply pw_below_drewN | apply below_drew1 | refine below_set ?_ GE313.out) | exact HB.out)⟩
  · rw [if_neg c3] at H
    have c3b0 : decide (t314 < 0) = false := decide_eq_false c3
    clear c3
    replace H := Option.bind_eq_some_iff.mp H
    obtain ⟨⟨t315, t318⟩, A70, H⟩ := H
    replace H : ((spec_CountStandard.f k t315 t318).bind fun t321 => ((laws_toShape.f k l0_0 l0_1).bind fun bt322 => ((impl_CountStandard.f k bt322.1 bt322.2).bind fun t329 => (if t329 = t321 then ((laws_toShape.f k l0_0 l0_1).bind fun bt330 => ((laws_eqShape.f k bt322.1 bt322.2 bt330.1 bt330.2).bind fun t336 => (if t336 = true then (some true) else (some false)))) else (some false))))) = some r := H
    have A7 := Aside0.mk A70
    clear A70
    replace H := Option.bind_eq_some_iff.mp H
    obtain ⟨t321, A80, H⟩ := H
    replace H : ((laws_toShape.f k l0_0 l0_1).bind fun bt322 => ((impl_CountStandard.f k bt322.1 bt322.2).bind fun t329 => (if t329 = t321 then ((laws_toShape.f k l0_0 l0_1).bind fun bt330 => ((laws_eqShape.f k bt322.1 bt322.2 bt330.1 bt330.2).bind fun t336 => (if t336 = true then (some true) else (some false)))) else (some false)))) = some r := H
    have A8 := Aside0.mk A80
    clear A80
    replace H := Option.bind_eq_some_iff.mp H
    obtain ⟨⟨t322, t325⟩, A90, H⟩ := H
    replace H : ((impl_CountStandard.f k t322 t325).bind fun t329 => (if t329 = t321 then ((laws_toShape.f k l0_0 l0_1).bind fun bt330 => ((laws_eqShape.f k t322 t325 bt330.1 bt330.2).bind fun t336 => (if t336 = true then (some true) else (some false)))) else (some false))) = some r := H
    have A9 := Aside0.mk A90
    clear A90
    replace H := Option.bind_eq_some_iff.mp H
    obtain ⟨t329, A100, H⟩ := H
    replace H : (if t329 = t321 then ((laws_toShape.f k l0_0 l0_1).bind fun bt330 => ((laws_eqShape.f k t322 t325 bt330.1 bt330.2).bind fun t336 => (if t336 = true then (some true) else (some false)))) else (some false)) = some r := H
    have A10 := Aside0.mk A100
    clear A100
    by_cases c11 : t329 = t321
    · rw [if_pos c11] at H
      have c11b0 : (t329 == t321) = true := beq_iff_eq.mpr c11
      have c11b1 : (t329 != t321) = false := bne_eq_false_iff_eq.mpr c11
      clear c11
      replace H := Option.bind_eq_some_iff.mp H
      obtain ⟨⟨t330, t333⟩, A120, H⟩ := H
      replace H : ((laws_eqShape.f k t322 t325 t330 t333).bind fun t336 => (if t336 = true then (some true) else (some false))) = some r := H
      have A12 := Aside0.mk A120
      clear A120
      replace H := Option.bind_eq_some_iff.mp H
      obtain ⟨t336, A130, H⟩ := H
      replace H : (if t336 = true then (some true) else (some false)) = some r := H
      have A13 := Aside0.mk A130
      clear A130
      by_cases c14 : t336 = true
      · subst c14
        have H1 : (some true) = some r := by rw [if_pos rfl] at H; exact H
        clear H
        have H := H1
        clear H1
        obtain rfl := Option.some.inj H
        go_enter Tryd.func5, Tryd.ntmps5
        try go_wp2_with (first | ((with_reducible refine gate_dst (N := 1) rfl ?_); refine box_event ?hg (N := 1) ?hd (cs := #[.slice A0_0 l0_0.length c0_0, .slice A0_1 l0_1.length c0_1]) (t := 35) ?hr ?_; (case hd => rfl); (case hg => rfl); (case hr => first | (go_simp; done) | (go_simp; rfl)); intro gb313 hg w15 hbox hb; have n0_ := Aside0.mk (below_step (by repeat (first | (with_reducible first | exact HB.out | apply below_alloc | apply pw_below_drewN | apply below_drew1) | exact HB.out)) hb); have n1_ := Aside0.mk (hbox); have n2_ := Aside0.mk ((by rw [hg]; exact (below_size (by repeat (first | (with_reducible first | exact HB.out | apply below_alloc | apply pw_below_drewN | apply below_drew1) | exact HB.out))) : w.heap.size ≤ gb313)); have n3_ := Aside0.mk ((by rw [hg]; exact (below_size (by repeat (first | (with_reducible first | exact HB.out | apply below_alloc | apply pw_below_drewN | apply below_drew1) | exact HB.out))) : w.heap.size ≤ gb313)); clear HB; have HB := n0_; have BK313 := n1_; have GW313 := n2_; have GE313 := n3_; clear n0_ n1_ n2_ n3_; clear hb hbox hg; have hcz16_0 : w15.cell? ⟨gb313, 0, none⟩ = some (.slice A0_0 l0_0.length c0_0) := (blk_cell BK313.out 0).trans rfl; have hcz16_1 : w15.cell? ⟨gb313, 1, none⟩ = some (.slice A0_1 l0_1.length c0_1) := (blk_cell BK313.out 1).trans rfl; have hfz16_0 := blk_frozen BK313.out 0; have hfz16_1 := blk_frozen BK313.out 1) | ((with_reducible refine gate_callee (f := 17) rfl ?_); refine goesL_ (some 9) rfl rfl Tryd.func17 (by kernel_rfl) rfl #[.agg #[.slice A0_0 l0_0.length c0_0, .slice A0_1 l0_1.length c0_1], .int .i64 1048576] rfl (by (try simp only [List.map_toArray, List.map_cons, List.map_nil]); first | done | rfl | (simp only [List.length_drop, List.length_take]; rfl)) ?_; (with_reducible refine (laws_szShape.calls _ _ l0_0 _ _ l0_1 1048576 t314 _ ?side1 ?side2 ?side3 ?side4 A2.out).mono ?_); (case side1 => repeat (first | exact (Kd.C_below HR0_0.out HB.out) | (with_reducible refine Kd.C_alloc ?_ _) | (with_reducible refine Kd.C_drewN ?_ _) | (with_reducible refine Kd.C_drew ?_))); (case side2 => exact HC0_0.out); (case side3 => repeat (first | exact (Kd.C_below HR0_1.out HB.out) | (with_reducible refine Kd.C_alloc ?_ _) | (with_reducible refine Kd.C_drewN ?_ _) | (with_reducible refine Kd.C_drew ?_))); (case side4 => exact HC0_1.out); rintro e w17 ⟨rfl, hb⟩; refine ⟨_, rfl, ?_⟩; have n0_ := Aside0.mk (blk_below (g := gb313) (o := .cells #[.slice A0_0 l0_0.length c0_0, .slice A0_1 l0_1.length c0_1] 35 (0, 0)) (by (with_reducible repeat (first | refine blk_drewN ?_ _ | refine blk_drew ?_ | refine blk_alloc ?_ _)); exact BK313.out) hb); have n1_ := Aside0.mk (below_step (by repeat (first | (with_reducible first | exact HB.out | apply below_alloc | apply pw_below_drewN | apply below_drew1 | refine below_set ?_ GE313.out) | exact HB.out)) hb); clear BK313; clear HB; have BK313 := n0_; have HB := n1_; clear n0_ n1_; (try clear hb); (try clear hb2); (try clear hk); (try clear hi); have hcz18_0 : w17.cell? ⟨gb313, 0, none⟩ = some (.slice A0_0 l0_0.length c0_0) := (blk_cell BK313.out 0).trans rfl; have hcz18_1 : w17.cell? ⟨gb313, 1, none⟩ = some (.slice A0_1 l0_1.length c0_1) := (blk_cell BK313.out 1).trans rfl; have hfz18_0 := blk_frozen BK313.out 0; have hfz18_1 := blk_frozen BK313.out 1) | ((with_reducible refine gate_callee (f := 19) rfl ?_); refine goesL_ (some 13) rfl rfl Tryd.func19 (by kernel_rfl) rfl #[.agg #[.slice A0_0 l0_0.length c0_0, .slice A0_1 l0_1.length c0_1]] rfl (by (try simp only [List.map_toArray, List.map_cons, List.map_nil]); first | done | rfl | (simp only [List.length_drop, List.length_take]; rfl)) ?_; (with_reducible refine (laws_toShape.calls k _ _ l0_0 _ _ l0_1 t315 t318 _ ?side1 ?side2 ?side3 ?side4 A7.out).mono ?_); (case side1 => repeat (first | exact (Kd.C_below HR0_0.out HB.out) | (with_reducible refine Kd.C_alloc ?_ _) | (with_reducible refine Kd.C_drewN ?_ _) | (with_reducible refine Kd.C_drew ?_))); (case side2 => exact HC0_0.out); (case side3 => repeat (first | exact (Kd.C_below HR0_1.out HB.out) | (with_reducible refine Kd.C_alloc ?_ _) | (with_reducible refine Kd.C_drewN ?_ _) | (with_reducible refine Kd.C_drew ?_))); (case side4 => exact HC0_1.out); rintro e w19 ⟨v316, v319, rfl, ho0, ho1, hb⟩; refine ⟨_, rfl, ?_⟩; have n0_ := Aside0.mk (Kd.R_lower ho0 (below_size (by repeat (first | (with_reducible first | exact HB.out | apply below_alloc | apply pw_below_drewN | apply below_drew1 | refine below_set ?_ GE313.out) | exact HB.out)))); have n1_ := Aside0.mk (Kd.R_lower ho1 (below_size (by repeat (first | (with_reducible first | exact HB.out | apply below_alloc | apply pw_below_drewN | apply below_drew1 | refine below_set ?_ GE313.out) | exact HB.out)))); have n2_ := Aside0.mk (blk_below (g := gb313) (o := .cells #[.slice A0_0 l0_0.length c0_0, .slice A0_1 l0_1.length c0_1] 35 (0, 0)) (by (with_reducible repeat (first | refine blk_drewN ?_ _ | refine blk_drew ?_ | refine blk_alloc ?_ _)); exact BK313.out) hb); have n3_ := Aside0.mk (below_step (by repeat (first | (with_reducible first | exact HB.out | apply below_alloc | apply pw_below_drewN | apply below_drew1 | refine below_set ?_ GE313.out) | exact HB.out)) hb); clear BK313; clear HB; have HO317 := n0_; have HO320 := n1_; have BK313 := n2_; have HB := n3_; clear n0_ n1_ n2_ n3_; (try clear hb); (try clear hb2); (try clear hk); (try clear hi); (try clear ho0); (try clear ho1); obtain ⟨Ao20, co20, eo20⟩ := Kd.R_slice HO317.out; subst eo20; obtain ⟨Ao21, co21, eo21⟩ := Kd.R_slice HO320.out; subst eo21) | ((with_reducible refine gate_callee (f := 18) rfl ?_); refine goesL_ (some 14) rfl rfl Tryd.func18 (by kernel_rfl) rfl #[.agg #[.slice Ao20 t315.length co20, .slice Ao21 t318.length co21]] rfl (by (try simp only [List.map_toArray, List.map_cons, List.map_nil]); first | done | rfl | (simp only [List.length_drop, List.length_take]; rfl)) ?_; (with_reducible refine (spec_CountStandard.calls k _ _ t315 _ _ t318 t321 _ ?side1 ?side2 ?side3 ?side4 A8.out).mono ?_); (case side1 => repeat (first | exact (Kd.R_reads' HO317.out).2.2 | (with_reducible refine Kd.C_alloc ?_ _) | (with_reducible refine Kd.C_drewN ?_ _) | (with_reducible refine Kd.C_drew ?_))); (case side2 => exact (Kd.R_reads' HO317.out).2.1); (case side3 => repeat (first | exact (Kd.R_reads' HO320.out).2.2 | (with_reducible refine Kd.C_alloc ?_ _) | (with_reducible refine Kd.C_drewN ?_ _) | (with_reducible refine Kd.C_drew ?_))); (case side4 => exact (Kd.R_reads' HO320.out).2.1); rintro e w22 ⟨rfl, hb⟩; refine ⟨_, rfl, ?_⟩; have n0_ := Aside0.mk (Kd.R_below (by (with_reducible repeat (first | apply Kd.R_alloc | apply Kd.R_drewN | apply Kd.R_drew)); exact HO317.out) hb); have n1_ := Aside0.mk (Kd.R_below (by (with_reducible repeat (first | apply Kd.R_alloc | apply Kd.R_drewN | apply Kd.R_drew)); exact HO320.out) hb); have n2_ := Aside0.mk (blk_below (g := gb313) (o := .cells #[.slice A0_0 l0_0.length c0_0, .slice A0_1 l0_1.length c0_1] 35 (0, 0)) (by (with_reducible repeat (first | refine blk_drewN ?_ _ | refine blk_drew ?_ | refine blk_alloc ?_ _)); exact BK313.out) hb); have n3_ := Aside0.mk (below_step (by repeat (first | (with_reducible first | exact HB.out | apply below_alloc | apply pw_below_drewN | apply below_drew1 | refine below_set ?_ GE313.out) | exact HB.out)) hb); clear HO317; clear HO320; clear BK313; clear HB; have HO317 := n0_; have HO320 := n1_; have BK313 := n2_; have HB := n3_; clear n0_ n1_ n2_ n3_; (try clear hb); (try clear hb2); (try clear hk); (try clear hi); have hcz23_0 : w22.cell? ⟨gb313, 0, none⟩ = some (.slice A0_0 l0_0.length c0_0) := (blk_cell BK313.out 0).trans rfl; have hcz23_1 : w22.cell? ⟨gb313, 1, none⟩ = some (.slice A0_1 l0_1.length c0_1) := (blk_cell BK313.out 1).trans rfl; have hfz23_0 := blk_frozen BK313.out 0; have hfz23_1 := blk_frozen BK313.out 1) | ((with_reducible refine gate_callee (f := 19) rfl ?_); refine goesL_ (some 16) rfl rfl Tryd.func19 (by kernel_rfl) rfl #[.agg #[.slice A0_0 l0_0.length c0_0, .slice A0_1 l0_1.length c0_1]] rfl (by (try simp only [List.map_toArray, List.map_cons, List.map_nil]); first | done | rfl | (simp only [List.length_drop, List.length_take]; rfl)) ?_; (with_reducible refine (laws_toShape.calls k _ _ l0_0 _ _ l0_1 t322 t325 _ ?side1 ?side2 ?side3 ?side4 A9.out).mono ?_); (case side1 => repeat (first | exact (Kd.C_below HR0_0.out HB.out) | (with_reducible refine Kd.C_alloc ?_ _) | (with_reducible refine Kd.C_drewN ?_ _) | (with_reducible refine Kd.C_drew ?_))); (case side2 => exact HC0_0.out); (case side3 => repeat (first | exact (Kd.C_below HR0_1.out HB.out) | (with_reducible refine Kd.C_alloc ?_ _) | (with_reducible refine Kd.C_drewN ?_ _) | (with_reducible refine Kd.C_drew ?_))); (case side4 => exact HC0_1.out); rintro e w24 ⟨v323, v326, rfl, ho0, ho1, hb⟩; refine ⟨_, rfl, ?_⟩; have n0_ := Aside0.mk (Kd.R_mono (Kd.R_told (Kd.R_told (Kd.R_old (by (with_reducible repeat (first | apply Kd.R_alloc | apply Kd.R_drewN | apply Kd.R_drew)); exact HO317.out) hb) (Kd.R_base ho0)) (Kd.R_base ho1)) (fun _ h_ => h_.1)); have n1_ := Aside0.mk (Kd.R_mono (Kd.R_told (Kd.R_told (Kd.R_old (by (with_reducible repeat (first | apply Kd.R_alloc | apply Kd.R_drewN | apply Kd.R_drew)); exact HO320.out) hb) (Kd.R_base ho0)) (Kd.R_base ho1)) (fun _ h_ => h_.1)); have n2_ := Aside0.mk (Kd.R_lower (Kd.R_new' (Kd.R_new' ho0 (Kd.R_lt (by (with_reducible repeat (first | apply Kd.R_alloc | apply Kd.R_drewN | apply Kd.R_drew)); exact HO317.out))) (Kd.R_lt (by (with_reducible repeat (first | apply Kd.R_alloc | apply Kd.R_drewN | apply Kd.R_drew)); exact HO320.out))) (below_size (by repeat (first | (with_reducible first | exact HB.out | apply below_alloc | apply pw_below_drewN | apply below_drew1 | refine below_set ?_ GE313.out) | exact HB.out)))); have n3_ := Aside0.mk (Kd.R_lower (Kd.R_new' (Kd.R_new' ho1 (Kd.R_lt (by (with_reducible repeat (first | apply Kd.R_alloc | apply Kd.R_drewN | apply Kd.R_drew)); exact HO317.out))) (Kd.R_lt (by (with_reducible repeat (first | apply Kd.R_alloc | apply Kd.R_drewN | apply Kd.R_drew)); exact HO320.out))) (below_size (by repeat (first | (with_reducible first | exact HB.out | apply below_alloc | apply pw_below_drewN | apply below_drew1 | refine below_set ?_ GE313.out) | exact HB.out)))); have n4_ := Aside0.mk (blk_below (g := gb313) (o := .cells #[.slice A0_0 l0_0.length c0_0, .slice A0_1 l0_1.length c0_1] 35 (0, 0)) (by (with_reducible repeat (first | refine blk_drewN ?_ _ | refine blk_drew ?_ | refine blk_alloc ?_ _)); exact BK313.out) hb); have n5_ := Aside0.mk (below_step (by repeat (first | (with_reducible first | exact HB.out | apply below_alloc | apply pw_below_drewN | apply below_drew1 | refine below_set ?_ GE313.out) | exact HB.out)) hb); clear HO317; clear HO320; clear BK313; clear HB; have HO317 := n0_; have HO320 := n1_; have HO324 := n2_; have HO327 := n3_; have BK313 := n4_; have HB := n5_; clear n0_ n1_ n2_ n3_ n4_ n5_; (try clear hb); (try clear hb2); (try clear hk); (try clear hi); (try clear ho0); (try clear ho1)) | ((with_reducible refine gate_dst (N := 5) rfl ?_); refine box_event ?hg (N := 5) ?hd (cs := #[.slice none 0 0, .slice none 0 0]) (t := 38) ?hr ?_; (case hd => rfl); (case hg => rfl); (case hr => first | (go_simp; done) | (go_simp; rfl)); intro gb328 hg w25 hbox hb; have n0_ := Aside0.mk (Kd.R_below (by (with_reducible repeat (first | apply Kd.R_alloc | apply Kd.R_drewN | apply Kd.R_drew)); exact HO317.out) hb); have n1_ := Aside0.mk (Kd.R_below (by (with_reducible repeat (first | apply Kd.R_alloc | apply Kd.R_drewN | apply Kd.R_drew)); exact HO320.out) hb); have n2_ := Aside0.mk (Kd.R_below (by (with_reducible repeat (first | apply Kd.R_alloc | apply Kd.R_drewN | apply Kd.R_drew)); exact HO324.out) hb); have n3_ := Aside0.mk (Kd.R_below (by (with_reducible repeat (first | apply Kd.R_alloc | apply Kd.R_drewN | apply Kd.R_drew)); exact HO327.out) hb); have n4_ := Aside0.mk (blk_below (g := gb313) (o := .cells #[.slice A0_0 l0_0.length c0_0, .slice A0_1 l0_1.length c0_1] 35 (0, 0)) (by (with_reducible repeat (first | refine blk_drewN ?_ _ | refine blk_drew ?_ | refine blk_alloc ?_ _)); exact BK313.out) hb); have n5_ := Aside0.mk (below_step (by repeat (first | (with_reducible first | exact HB.out | apply below_alloc | apply pw_below_drewN | apply below_drew1 | refine below_set ?_ GE313.out) | exact HB.out)) hb); have n6_ := Aside0.mk (hbox); have n7_ := Aside0.mk ((by rw [hg]; exact (below_size (by repeat (first | (with_reducible first | exact HB.out | apply below_alloc | apply pw_below_drewN | apply below_drew1 | refine below_set ?_ GE313.out) | exact HB.out))) : w.heap.size ≤ gb328)); have n8_ := Aside0.mk ((by rw [hg]; exact (below_size (by repeat (first | (with_reducible first | exact HB.out | apply below_alloc | apply pw_below_drewN | apply below_drew1 | refine below_set ?_ GE313.out) | exact HB.out))) : w.heap.size ≤ gb328)); have n9_ := Aside0.mk ((by rw [hg]; exact Nat.ne_of_lt (blk_lt (g := gb313) (o := .cells #[.slice A0_0 l0_0.length c0_0, .slice A0_1 l0_1.length c0_1] 35 (0, 0)) (by (with_reducible repeat (first | refine blk_drewN ?_ _ | refine blk_drew ?_ | refine blk_alloc ?_ _)); exact BK313.out)) : gb313 ≠ gb328)); have n10_ := Aside0.mk ((by rw [hg]; exact Nat.ne_of_gt (blk_lt (g := gb313) (o := .cells #[.slice A0_0 l0_0.length c0_0, .slice A0_1 l0_1.length c0_1] 35 (0, 0)) (by (with_reducible repeat (first | refine blk_drewN ?_ _ | refine blk_drew ?_ | refine blk_alloc ?_ _)); exact BK313.out)) : gb328 ≠ gb313)); clear HO317; clear HO320; clear HO324; clear HO327; clear BK313; clear HB; have HO317 := n0_; have HO320 := n1_; have HO324 := n2_; have HO327 := n3_; have BK313 := n4_; have HB := n5_; have BK328 := n6_; have GW328 := n7_; have GE328 := n8_; have NB313_328 := n9_; have NB328_313 := n10_; clear n0_ n1_ n2_ n3_ n4_ n5_ n6_ n7_ n8_ n9_ n10_; clear hb hbox hg; obtain ⟨Ao26, co26, eo26⟩ := Kd.R_slice HO324.out; subst eo26; have hnb27 := NB328_313.out; have hnc27 := NB313_328.out; have hcz28_0 : w25.cell? ⟨gb328, 0, none⟩ = some (.slice none 0 0) := (blk_cell BK328.out 0).trans rfl; have hcz28_1 : w25.cell? ⟨gb328, 1, none⟩ = some (.slice none 0 0) := (blk_cell BK328.out 1).trans rfl; have hfz28_0 := blk_frozen BK328.out 0; have hfz28_1 := blk_frozen BK328.out 1; obtain ⟨Ao29, co29, eo29⟩ := Kd.R_slice HO327.out; subst eo29) | ((with_reducible refine gate_callee (f := 20) rfl ?_); refine goesL_ (some 18) rfl rfl Tryd.func20 (by kernel_rfl) rfl #[.agg #[.slice Ao26 t322.length co26, .slice Ao29 t325.length co29]] rfl (by (try simp only [List.map_toArray, List.map_cons, List.map_nil]); first | done | rfl | (simp only [List.length_drop, List.length_take]; rfl)) ?_; (with_reducible refine (impl_CountStandard.calls k _ _ t322 _ _ t325 t329 _ ?side1 ?side2 ?side3 ?side4 A10.out).mono ?_); (case side1 => refine (Kd.R_reads' (e := 3) (base := w.heap.size) (ok := fun k_ => ((some k_ ≠ (.slice Ao29 t325.length co29 : Value).ownBlock ∧ some k_ ≠ (.slice Ao20 t315.length co20 : Value).ownBlock) ∧ some k_ ≠ (.slice Ao21 t318.length co21 : Value).ownBlock)) (n := t322.length) (c := co26) ?_).2.2; exact (by (with_reducible repeat (first | apply Kd.R_alloc | apply Kd.R_drewN | apply Kd.R_drew)); exact (Kd.R_mono (Kd.R_far (p := ⟨gb328, 1, none⟩) (Kd.R_far (p := ⟨gb328, 0, none⟩) (Kd.R_types HO324.out BK328.out (by decide)) (fun _ hk => hk.2) (.slice Ao26 t322.length co26)) (fun _ hk => hk.2) (.slice Ao29 t325.length co29)) (fun _ h_ => h_.1)))); (case side2 => exact (Kd.R_reads' HO324.out).2.1); (case side3 => refine (Kd.R_reads' (e := 3) (base := w.heap.size) (ok := fun k_ => ((some k_ ≠ (.slice Ao26 t322.length co26 : Value).ownBlock ∧ some k_ ≠ (.slice Ao20 t315.length co20 : Value).ownBlock) ∧ some k_ ≠ (.slice Ao21 t318.length co21 : Value).ownBlock)) (n := t325.length) (c := co29) ?_).2.2; exact (by (with_reducible repeat (first | apply Kd.R_alloc | apply Kd.R_drewN | apply Kd.R_drew)); exact (Kd.R_mono (Kd.R_far (p := ⟨gb328, 1, none⟩) (Kd.R_far (p := ⟨gb328, 0, none⟩) (Kd.R_types HO327.out BK328.out (by decide)) (fun _ hk => hk.2) (.slice Ao26 t322.length co26)) (fun _ hk => hk.2) (.slice Ao29 t325.length co29)) (fun _ h_ => h_.1)))); (case side4 => exact (Kd.R_reads' HO327.out).2.1); rintro e w30 ⟨rfl, hb⟩; refine ⟨_, rfl, ?_⟩; have n0_ := Aside0.mk (Kd.R_below (by (with_reducible repeat (first | apply Kd.R_alloc | apply Kd.R_drewN | apply Kd.R_drew)); exact (Kd.R_mono (Kd.R_far (p := ⟨gb328, 1, none⟩) (Kd.R_far (p := ⟨gb328, 0, none⟩) (Kd.R_types HO317.out BK328.out (by decide)) (fun _ hk => hk.2) (.slice Ao26 t322.length co26)) (fun _ hk => hk.2) (.slice Ao29 t325.length co29)) (fun _ h_ => h_.1))) hb); have n1_ := Aside0.mk (Kd.R_below (by (with_reducible repeat (first | apply Kd.R_alloc | apply Kd.R_drewN | apply Kd.R_drew)); exact (Kd.R_mono (Kd.R_far (p := ⟨gb328, 1, none⟩) (Kd.R_far (p := ⟨gb328, 0, none⟩) (Kd.R_types HO320.out BK328.out (by decide)) (fun _ hk => hk.2) (.slice Ao26 t322.length co26)) (fun _ hk => hk.2) (.slice Ao29 t325.length co29)) (fun _ h_ => h_.1))) hb); have n2_ := Aside0.mk (Kd.R_below (by (with_reducible repeat (first | apply Kd.R_alloc | apply Kd.R_drewN | apply Kd.R_drew)); exact (Kd.R_mono (Kd.R_far (p := ⟨gb328, 1, none⟩) (Kd.R_far (p := ⟨gb328, 0, none⟩) (Kd.R_types HO324.out BK328.out (by decide)) (fun _ hk => hk.2) (.slice Ao26 t322.length co26)) (fun _ hk => hk.2) (.slice Ao29 t325.length co29)) (fun _ h_ => h_.1))) hb); have n3_ := Aside0.mk (Kd.R_below (by (with_reducible repeat (first | apply Kd.R_alloc | apply Kd.R_drewN | apply Kd.R_drew)); exact (Kd.R_mono (Kd.R_far (p := ⟨gb328, 1, none⟩) (Kd.R_far (p := ⟨gb328, 0, none⟩) (Kd.R_types HO327.out BK328.out (by decide)) (fun _ hk => hk.2) (.slice Ao26 t322.length co26)) (fun _ hk => hk.2) (.slice Ao29 t325.length co29)) (fun _ h_ => h_.1))) hb); have n4_ := Aside0.mk (blk_below (g := gb313) (o := .cells #[.slice A0_0 l0_0.length c0_0, .slice A0_1 l0_1.length c0_1] 35 (0, 0)) (by (with_reducible repeat (first | refine blk_drewN ?_ _ | refine blk_drew ?_ | refine blk_alloc ?_ _)); refine blk_far ?_ NB313_328.out _; (with_reducible repeat (first | refine blk_drewN ?_ _ | refine blk_drew ?_ | refine blk_alloc ?_ _)); refine blk_far ?_ NB313_328.out _; (with_reducible repeat (first | refine blk_drewN ?_ _ | refine blk_drew ?_ | refine blk_alloc ?_ _)); exact BK313.out) hb); have n5_ := Aside0.mk (blk_below (g := gb328) (o := .cells #[.slice Ao26 t322.length co26, .slice Ao29 t325.length co29] 38 (0, 0)) (by (with_reducible repeat (first | refine blk_drewN ?_ _ | refine blk_drew ?_ | refine blk_alloc ?_ _)); refine blk_put (cs := #[.slice Ao26 t322.length co26, .slice none 0 0]) ?_ 1 _ rfl; (with_reducible repeat (first | refine blk_drewN ?_ _ | refine blk_drew ?_ | refine blk_alloc ?_ _)); refine blk_put (cs := #[.slice none 0 0, .slice none 0 0]) ?_ 0 _ rfl; (with_reducible repeat (first | refine blk_drewN ?_ _ | refine blk_drew ?_ | refine blk_alloc ?_ _)); exact BK328.out) hb); have n6_ := Aside0.mk (below_step (by repeat (first | (with_reducible first | exact HB.out | apply below_alloc | apply pw_below_drewN | apply below_drew1 | refine below_set ?_ GE313.out | refine below_set ?_ GE328.out) | exact HB.out)) hb); clear HO317; clear HO320; clear HO324; clear HO327; clear BK313; clear BK328; clear HB; have HO317 := n0_; have HO320 := n1_; have HO324 := n2_; have HO327 := n3_; have BK313 := n4_; have BK328 := n5_; have HB := n6_; clear n0_ n1_ n2_ n3_ n4_ n5_ n6_; (try clear hb); (try clear hb2); (try clear hk); (try clear hi)))
        have n0_ := Aside0.mk (Kd.R_drew HO317.out)
        have n1_ := Aside0.mk (Kd.R_drew HO320.out)
        have n2_ := Aside0.mk (Kd.R_drew HO324.out)
        have n3_ := Aside0.mk (Kd.R_drew HO327.out)
        have n4_ := Aside0.mk (blk_drew BK313.out)
        have n5_ := Aside0.mk (blk_drew BK328.out)
        have n6_ := Aside0.mk (below_drew1 HB.out)
        clear HO317
        clear HO320
        clear HO324
        clear HO327
        clear BK313
        clear BK328
        clear HB
        have HO317 := n0_
        have HO320 := n1_
        have HO324 := n2_
        have HO327 := n3_
        have BK313 := n4_
        have BK328 := n5_
        have HB := n6_
        clear n0_ n1_ n2_ n3_ n4_ n5_ n6_
        refine start_ (n := 5) (S := fun w' => w'.cell? ⟨gb328, 0, none⟩ = some (.slice Ao26 t322.length co26) ∧ w'.cell? ⟨gb328, 1, none⟩ = some (.slice Ao29 t325.length co29) ∧ w'.cell? ⟨gb313, 0, none⟩ = some (.slice A0_0 l0_0.length c0_0) ∧ w'.cell? ⟨gb313, 1, none⟩ = some (.slice A0_1 l0_1.length c0_1)) (ds := []) #[false, false, false, false, false] (by kernel_rfl) rfl rfl ⟨(blk_cell BK328.out 0).trans rfl, (blk_cell BK328.out 1).trans rfl, (blk_cell BK313.out 0).trans rfl, (blk_cell BK313.out 1).trans rfl⟩ (fun hHeld => ?_)
        generalize w30.drew = w31 at HO317 HO320 HO324 HO327 BK313 BK328 HB hHeld ⊢
        refine take_ (i := 0) (N := some 22) (v := ?_) (a' := ?_) #[true, false, false, false, false] rfl rfl (by kernel_rfl) (fun _ _ _ h => h) (Or.inl ⟨by rfl, ?_⟩) hHeld ?_ ?_
        rotate_left
        · rintro w' ⟨s0, s1, s2, s3⟩
          go_simp
          with_reducible rfl
        rotate_left
        · simp only [Act.put, List.setIfInBounds_toArray, List.set_cons_zero, List.set_cons_succ, i64_w, i32_w]
          rfl
        refine take_ (i := 1) (N := some 23) (v := ?_) (a' := ?_) #[true, true, false, false, false] rfl rfl (by kernel_rfl) (fun _ _ _ h => h) (Or.inl ⟨by rfl, ?_⟩) hHeld ?_ ?_
        rotate_left
        · rintro w' ⟨s0, s1, s2, s3⟩
          go_simp
          with_reducible rfl
        rotate_left
        · simp only [Act.put, List.setIfInBounds_toArray, List.set_cons_zero, List.set_cons_succ, i64_w, i32_w]
          rfl
        refine one_ (i := 2) (N := some 24) #[true, true, true, false, false] rfl rfl (by kernel_rfl) (by decide) (fun K hK => ?_)
        refine goes_ Tryd.func19 (by kernel_rfl) rfl #[.agg #[.slice A0_0 l0_0.length c0_0, .slice A0_1 l0_1.length c0_1]] (by rfl) rfl rfl (by (try simp only [List.map_toArray, List.map_cons, List.map_nil]); first | done | rfl | (simp only [List.length_drop, List.length_take]; rfl)) ?_
        with_reducible refine (laws_toShape.calls k _ _ l0_0 _ _ l0_1 t330 t333 _ ?side1 ?side2 ?side3 ?side4 A12.out).mono ?_
        (case side1 => repeat (first | exact (Kd.C_below HR0_0.out HB.out) | (with_reducible refine Kd.C_alloc ?_ _) | (with_reducible refine Kd.C_drewN ?_ _) | (with_reducible refine Kd.C_drew ?_)))
        (case side2 => exact HC0_0.out)
        (case side3 => repeat (first | exact (Kd.C_below HR0_1.out HB.out) | (with_reducible refine Kd.C_alloc ?_ _) | (with_reducible refine Kd.C_drewN ?_ _) | (with_reducible refine Kd.C_drew ?_)))
        (case side4 => exact HC0_1.out)
        rintro e w32 ⟨v331, v334, rfl, ho0, ho1, hb⟩
        refine ⟨_, rfl, ?_⟩
        have n0_ := Aside0.mk (Kd.R_mono (Kd.R_told (Kd.R_told (Kd.R_old (by (with_reducible repeat (first | apply Kd.R_alloc | apply Kd.R_drewN | apply Kd.R_drew)); exact HO317.out) hb) (Kd.R_base ho0)) (Kd.R_base ho1)) (fun _ h_ => h_.1))
        have n1_ := Aside0.mk (Kd.R_mono (Kd.R_told (Kd.R_told (Kd.R_old (by (with_reducible repeat (first | apply Kd.R_alloc | apply Kd.R_drewN | apply Kd.R_drew)); exact HO320.out) hb) (Kd.R_base ho0)) (Kd.R_base ho1)) (fun _ h_ => h_.1))
        have n2_ := Aside0.mk (Kd.R_mono (Kd.R_told (Kd.R_told (Kd.R_old (by (with_reducible repeat (first | apply Kd.R_alloc | apply Kd.R_drewN | apply Kd.R_drew)); exact HO324.out) hb) (Kd.R_base ho0)) (Kd.R_base ho1)) (fun _ h_ => h_.1))
        have n3_ := Aside0.mk (Kd.R_mono (Kd.R_told (Kd.R_told (Kd.R_old (by (with_reducible repeat (first | apply Kd.R_alloc | apply Kd.R_drewN | apply Kd.R_drew)); exact HO327.out) hb) (Kd.R_base ho0)) (Kd.R_base ho1)) (fun _ h_ => h_.1))
        have n4_ := Aside0.mk (Kd.R_lower (Kd.R_new' (Kd.R_new' (Kd.R_new' (Kd.R_new' ho0 (Kd.R_lt (by (with_reducible repeat (first | apply Kd.R_alloc | apply Kd.R_drewN | apply Kd.R_drew)); exact HO317.out))) (Kd.R_lt (by (with_reducible repeat (first | apply Kd.R_alloc | apply Kd.R_drewN | apply Kd.R_drew)); exact HO320.out))) (Kd.R_lt (by (with_reducible repeat (first | apply Kd.R_alloc | apply Kd.R_drewN | apply Kd.R_drew)); exact HO324.out))) (Kd.R_lt (by (with_reducible repeat (first | apply Kd.R_alloc | apply Kd.R_drewN | apply Kd.R_drew)); exact HO327.out))) (below_size (by repeat (first | (with_reducible first | exact HB.out | apply below_alloc | apply pw_below_drewN | apply below_drew1 | refine below_set ?_ GE313.out | refine below_set ?_ GE328.out) | exact HB.out))))
        have n5_ := Aside0.mk (Kd.R_lower (Kd.R_new' (Kd.R_new' (Kd.R_new' (Kd.R_new' ho1 (Kd.R_lt (by (with_reducible repeat (first | apply Kd.R_alloc | apply Kd.R_drewN | apply Kd.R_drew)); exact HO317.out))) (Kd.R_lt (by (with_reducible repeat (first | apply Kd.R_alloc | apply Kd.R_drewN | apply Kd.R_drew)); exact HO320.out))) (Kd.R_lt (by (with_reducible repeat (first | apply Kd.R_alloc | apply Kd.R_drewN | apply Kd.R_drew)); exact HO324.out))) (Kd.R_lt (by (with_reducible repeat (first | apply Kd.R_alloc | apply Kd.R_drewN | apply Kd.R_drew)); exact HO327.out))) (below_size (by repeat (first | (with_reducible first | exact HB.out | apply below_alloc | apply pw_below_drewN | apply below_drew1 | refine below_set ?_ GE313.out | refine below_set ?_ GE328.out) | exact HB.out))))
        have n6_ := Aside0.mk (blk_below (g := gb313) (o := .cells #[.slice A0_0 l0_0.length c0_0, .slice A0_1 l0_1.length c0_1] 35 (0, 0)) (by (with_reducible repeat (first | refine blk_drewN ?_ _ | refine blk_drew ?_ | refine blk_alloc ?_ _)); exact BK313.out) hb)
        have n7_ := Aside0.mk (blk_below (g := gb328) (o := .cells #[.slice Ao26 t322.length co26, .slice Ao29 t325.length co29] 38 (0, 0)) (by (with_reducible repeat (first | refine blk_drewN ?_ _ | refine blk_drew ?_ | refine blk_alloc ?_ _)); exact BK328.out) hb)
        have n8_ := Aside0.mk (below_step (by repeat (first | (with_reducible first | exact HB.out | apply below_alloc | apply pw_below_drewN | apply below_drew1 | refine below_set ?_ GE313.out | refine below_set ?_ GE328.out) | exact HB.out)) hb)
        clear HO317
        clear HO320
        clear HO324
        clear HO327
        clear BK313
        clear BK328
        clear HB
        have HO317 := n0_
        have HO320 := n1_
        have HO324 := n2_
        have HO327 := n3_
        have HO332 := n4_
        have HO335 := n5_
        have BK313 := n6_
        have BK328 := n7_
        have HB := n8_
        clear n0_ n1_ n2_ n3_ n4_ n5_ n6_ n7_ n8_
        (try clear hb)
        (try clear hb2)
        (try clear hk)
        (try clear hi)
        (try clear ho0)
        (try clear ho1)
        obtain ⟨Ao33, co33, eo33⟩ := Kd.R_slice HO332.out
        (first | subst eo33 | (injection eo33 with f1_ f2_ f3_; have f4_ := f1_.symm; have f5_ := f3_.symm; clear f1_ f2_ f3_; subst f4_; subst f5_))
        obtain ⟨Ao34, co34, eo34⟩ := Kd.R_slice HO335.out
        (first | subst eo34 | (injection eo34 with f1_ f2_ f3_; have f4_ := f1_.symm; have f5_ := f3_.symm; clear f1_ f2_ f3_; subst f4_; subst f5_))
        refine hK.out _ _ ⟨(blk_cell BK328.out 0).trans rfl, (blk_cell BK328.out 1).trans rfl, (blk_cell BK313.out 0).trans rfl, (blk_cell BK313.out 1).trans rfl⟩ (fun hHeld => ?_)
        clear hK K
        refine norm_ (a' := ?_) ?_ ?_
        rotate_left
        · show Act.put _ (some 24) _ = _
          simp only [Act.put, List.setIfInBounds_toArray, List.set_cons_zero, List.set_cons_succ, i64_w, i32_w]
          rfl
        refine one_ (i := 3) (N := some 25) #[true, true, true, true, false] rfl rfl (by kernel_rfl) (by decide) (fun K hK => ?_)
        refine goes_ Tryd.func21 (by kernel_rfl) rfl #[.agg #[.slice Ao26 t322.length co26, .slice Ao29 t325.length co29], .agg #[.slice Ao33 t330.length co33, .slice Ao34 t333.length co34]] (by rfl) rfl rfl (by (try simp only [List.map_toArray, List.map_cons, List.map_nil]); first | done | rfl | (simp only [List.length_drop, List.length_take]; rfl)) ?_
        with_reducible refine (laws_eqShape.calls k _ _ t322 _ _ t325 _ _ t330 _ _ t333 true _ ?side1 ?side2 ?side3 ?side4 ?side5 ?side6 ?side7 ?side8 A13.out).mono ?_
        (case side1 => repeat (first | exact (Kd.R_reads' HO324.out).2.2 | (with_reducible refine Kd.C_alloc ?_ _) | (with_reducible refine Kd.C_drewN ?_ _) | (with_reducible refine Kd.C_drew ?_)))
        (case side2 => exact (Kd.R_reads' HO324.out).2.1)
        (case side3 => repeat (first | exact (Kd.R_reads' HO327.out).2.2 | (with_reducible refine Kd.C_alloc ?_ _) | (with_reducible refine Kd.C_drewN ?_ _) | (with_reducible refine Kd.C_drew ?_)))
        (case side4 => exact (Kd.R_reads' HO327.out).2.1)
        (case side5 => repeat (first | exact (Kd.R_reads' HO332.out).2.2 | (with_reducible refine Kd.C_alloc ?_ _) | (with_reducible refine Kd.C_drewN ?_ _) | (with_reducible refine Kd.C_drew ?_)))
        (case side6 => exact (Kd.R_reads' HO332.out).2.1)
        (case side7 => repeat (first | exact (Kd.R_reads' HO335.out).2.2 | (with_reducible refine Kd.C_alloc ?_ _) | (with_reducible refine Kd.C_drewN ?_ _) | (with_reducible refine Kd.C_drew ?_)))
        (case side8 => exact (Kd.R_reads' HO335.out).2.1)
        rintro e w35 ⟨rfl, hb⟩
        refine ⟨_, rfl, ?_⟩
        have n0_ := Aside0.mk (Kd.R_below (by (with_reducible repeat (first | apply Kd.R_alloc | apply Kd.R_drewN | apply Kd.R_drew)); exact HO317.out) hb)
        have n1_ := Aside0.mk (Kd.R_below (by (with_reducible repeat (first | apply Kd.R_alloc | apply Kd.R_drewN | apply Kd.R_drew)); exact HO320.out) hb)
        have n2_ := Aside0.mk (Kd.R_below (by (with_reducible repeat (first | apply Kd.R_alloc | apply Kd.R_drewN | apply Kd.R_drew)); exact HO324.out) hb)
        have n3_ := Aside0.mk (Kd.R_below (by (with_reducible repeat (first | apply Kd.R_alloc | apply Kd.R_drewN | apply Kd.R_drew)); exact HO327.out) hb)
        have n4_ := Aside0.mk (Kd.R_below (by (with_reducible repeat (first | apply Kd.R_alloc | apply Kd.R_drewN | apply Kd.R_drew)); exact HO332.out) hb)
        have n5_ := Aside0.mk (Kd.R_below (by (with_reducible repeat (first | apply Kd.R_alloc | apply Kd.R_drewN | apply Kd.R_drew)); exact HO335.out) hb)
        have n6_ := Aside0.mk (blk_below (g := gb313) (o := .cells #[.slice A0_0 l0_0.length c0_0, .slice A0_1 l0_1.length c0_1] 35 (0, 0)) (by (with_reducible repeat (first | refine blk_drewN ?_ _ | refine blk_drew ?_ | refine blk_alloc ?_ _)); exact BK313.out) hb)
        have n7_ := Aside0.mk (blk_below (g := gb328) (o := .cells #[.slice Ao26 t322.length co26, .slice Ao29 t325.length co29] 38 (0, 0)) (by (with_reducible repeat (first | refine blk_drewN ?_ _ | refine blk_drew ?_ | refine blk_alloc ?_ _)); exact BK328.out) hb)
        have n8_ := Aside0.mk (below_step (by repeat (first | (with_reducible first | exact HB.out | apply below_alloc | apply pw_below_drewN | apply below_drew1 | refine below_set ?_ GE313.out | refine below_set ?_ GE328.out) | exact HB.out)) hb)
        clear HO317
        clear HO320
        clear HO324
        clear HO327
        clear HO332
        clear HO335
        clear BK313
        clear BK328
        clear HB
        have HO317 := n0_
        have HO320 := n1_
        have HO324 := n2_
        have HO327 := n3_
        have HO332 := n4_
        have HO335 := n5_
        have BK313 := n6_
        have BK328 := n7_
        have HB := n8_
        clear n0_ n1_ n2_ n3_ n4_ n5_ n6_ n7_ n8_
        (try clear hb)
        (try clear hb2)
        (try clear hk)
        (try clear hi)
        refine hK.out _ _ ⟨(blk_cell BK328.out 0).trans rfl, (blk_cell BK328.out 1).trans rfl, (blk_cell BK313.out 0).trans rfl, (blk_cell BK313.out 1).trans rfl⟩ (fun hHeld => ?_)
        clear hK K
        refine norm_ (a' := ?_) ?_ ?_
        rotate_left
        · show Act.put _ (some 25) _ = _
          simp only [Act.put, List.setIfInBounds_toArray, List.set_cons_zero, List.set_cons_succ, i64_w, i32_w]
          rfl
        refine pure_ (i := 4) (N := some 26) (v := ?_) (a' := ?_) #[true, true, true, true, true] rfl rfl (by kernel_rfl) (fun _ _ _ h => h) (Or.inl ⟨by rfl, ?_⟩) ?_ ?_
        rotate_left
        · intro w'
          go_simp
          with_reducible rfl
        rotate_left
        · simp only [Act.put, List.setIfInBounds_toArray, List.set_cons_zero, List.set_cons_succ, i64_w, i32_w]
          rfl
        refine done_ (by kernel_rfl) ?_
        try go_wp2
        go_ret
        exact ⟨by first | rfl | (simp [errW_none, errW_some] <;> rfl) | (simp [*, errW_none, errW_some] <;> rfl), by repeat (first | (with_reducible first | exact HB.out | apply below_alloc | apply pw_below_drewN | apply below_drew1 | refine below_set ?_ GE313.out | refine below_set ?_ GE328.out) | exact HB.out)⟩
      · replace c14 := Bool.eq_false_iff.mpr c14
        subst c14
        have H1 : (some false) = some r := by rw [if_neg (show ¬ (false = true) by decide)] at H; exact H
        clear H
        have H := H1
        clear H1
        obtain rfl := Option.some.inj H
        go_enter Tryd.func5, Tryd.ntmps5
        try go_wp2_with (first | ((with_reducible refine gate_dst (N := 1) rfl ?_); refine box_event ?hg (N := 1) ?hd (cs := #[.slice A0_0 l0_0.length c0_0, .slice A0_1 l0_1.length c0_1]) (t := 35) ?hr ?_; (case hd => rfl); (case hg => rfl); (case hr => first | (go_simp; done) | (go_simp; rfl)); intro gb313 hg w36 hbox hb; have n0_ := Aside0.mk (below_step (by repeat (first | (with_reducible first | exact HB.out | apply below_alloc | apply pw_below_drewN | apply below_drew1) | exact HB.out)) hb); have n1_ := Aside0.mk (hbox); have n2_ := Aside0.mk ((by rw [hg]; exact (below_size (by repeat (first | (with_reducible first | exact HB.out | apply below_alloc | apply pw_below_drewN | apply below_drew1) | exact HB.out))) : w.heap.size ≤ gb313)); have n3_ := Aside0.mk ((by rw [hg]; exact (below_size (by repeat (first | (with_reducible first | exact HB.out | apply below_alloc | apply pw_below_drewN | apply below_drew1) | exact HB.out))) : w.heap.size ≤ gb313)); clear HB; have HB := n0_; have BK313 := n1_; have GW313 := n2_; have GE313 := n3_; clear n0_ n1_ n2_ n3_; clear hb hbox hg; have hcz37_0 : w36.cell? ⟨gb313, 0, none⟩ = some (.slice A0_0 l0_0.length c0_0) := (blk_cell BK313.out 0).trans rfl; have hcz37_1 : w36.cell? ⟨gb313, 1, none⟩ = some (.slice A0_1 l0_1.length c0_1) := (blk_cell BK313.out 1).trans rfl; have hfz37_0 := blk_frozen BK313.out 0; have hfz37_1 := blk_frozen BK313.out 1) | ((with_reducible refine gate_callee (f := 17) rfl ?_); refine goesL_ (some 9) rfl rfl Tryd.func17 (by kernel_rfl) rfl #[.agg #[.slice A0_0 l0_0.length c0_0, .slice A0_1 l0_1.length c0_1], .int .i64 1048576] rfl (by (try simp only [List.map_toArray, List.map_cons, List.map_nil]); first | done | rfl | (simp only [List.length_drop, List.length_take]; rfl)) ?_; (with_reducible refine (laws_szShape.calls _ _ l0_0 _ _ l0_1 1048576 t314 _ ?side1 ?side2 ?side3 ?side4 A2.out).mono ?_); (case side1 => repeat (first | exact (Kd.C_below HR0_0.out HB.out) | (with_reducible refine Kd.C_alloc ?_ _) | (with_reducible refine Kd.C_drewN ?_ _) | (with_reducible refine Kd.C_drew ?_))); (case side2 => exact HC0_0.out); (case side3 => repeat (first | exact (Kd.C_below HR0_1.out HB.out) | (with_reducible refine Kd.C_alloc ?_ _) | (with_reducible refine Kd.C_drewN ?_ _) | (with_reducible refine Kd.C_drew ?_))); (case side4 => exact HC0_1.out); rintro e w38 ⟨rfl, hb⟩; refine ⟨_, rfl, ?_⟩; have n0_ := Aside0.mk (blk_below (g := gb313) (o := .cells #[.slice A0_0 l0_0.length c0_0, .slice A0_1 l0_1.length c0_1] 35 (0, 0)) (by (with_reducible repeat (first | refine blk_drewN ?_ _ | refine blk_drew ?_ | refine blk_alloc ?_ _)); exact BK313.out) hb); have n1_ := Aside0.mk (below_step (by repeat (first | (with_reducible first | exact HB.out | apply below_alloc | apply pw_below_drewN | apply below_drew1 | refine below_set ?_ GE313.out) | exact HB.out)) hb); clear BK313; clear HB; have BK313 := n0_; have HB := n1_; clear n0_ n1_; (try clear hb); (try clear hb2); (try clear hk); (try clear hi); have hcz39_0 : w38.cell? ⟨gb313, 0, none⟩ = some (.slice A0_0 l0_0.length c0_0) := (blk_cell BK313.out 0).trans rfl; have hcz39_1 : w38.cell? ⟨gb313, 1, none⟩ = some (.slice A0_1 l0_1.length c0_1) := (blk_cell BK313.out 1).trans rfl; have hfz39_0 := blk_frozen BK313.out 0; have hfz39_1 := blk_frozen BK313.out 1) | ((with_reducible refine gate_callee (f := 19) rfl ?_); refine goesL_ (some 13) rfl rfl Tryd.func19 (by kernel_rfl) rfl #[.agg #[.slice A0_0 l0_0.length c0_0, .slice A0_1 l0_1.length c0_1]] rfl (by (try simp only [List.map_toArray, List.map_cons, List.map_nil]); first | done | rfl | (simp only [List.length_drop, List.length_take]; rfl)) ?_; (with_reducible refine (laws_toShape.calls k _ _ l0_0 _ _ l0_1 t315 t318 _ ?side1 ?side2 ?side3 ?side4 A7.out).mono ?_); (case side1 => repeat (first | exact (Kd.C_below HR0_0.out HB.out) | (with_reducible refine Kd.C_alloc ?_ _) | (with_reducible refine Kd.C_drewN ?_ _) | (with_reducible refine Kd.C_drew ?_))); (case side2 => exact HC0_0.out); (case side3 => repeat (first | exact (Kd.C_below HR0_1.out HB.out) | (with_reducible refine Kd.C_alloc ?_ _) | (with_reducible refine Kd.C_drewN ?_ _) | (with_reducible refine Kd.C_drew ?_))); (case side4 => exact HC0_1.out); rintro e w40 ⟨v316, v319, rfl, ho0, ho1, hb⟩; refine ⟨_, rfl, ?_⟩; have n0_ := Aside0.mk (Kd.R_lower ho0 (below_size (by repeat (first | (with_reducible first | exact HB.out | apply below_alloc | apply pw_below_drewN | apply below_drew1 | refine below_set ?_ GE313.out) | exact HB.out)))); have n1_ := Aside0.mk (Kd.R_lower ho1 (below_size (by repeat (first | (with_reducible first | exact HB.out | apply below_alloc | apply pw_below_drewN | apply below_drew1 | refine below_set ?_ GE313.out) | exact HB.out)))); have n2_ := Aside0.mk (blk_below (g := gb313) (o := .cells #[.slice A0_0 l0_0.length c0_0, .slice A0_1 l0_1.length c0_1] 35 (0, 0)) (by (with_reducible repeat (first | refine blk_drewN ?_ _ | refine blk_drew ?_ | refine blk_alloc ?_ _)); exact BK313.out) hb); have n3_ := Aside0.mk (below_step (by repeat (first | (with_reducible first | exact HB.out | apply below_alloc | apply pw_below_drewN | apply below_drew1 | refine below_set ?_ GE313.out) | exact HB.out)) hb); clear BK313; clear HB; have HO317 := n0_; have HO320 := n1_; have BK313 := n2_; have HB := n3_; clear n0_ n1_ n2_ n3_; (try clear hb); (try clear hb2); (try clear hk); (try clear hi); (try clear ho0); (try clear ho1); obtain ⟨Ao41, co41, eo41⟩ := Kd.R_slice HO317.out; subst eo41; obtain ⟨Ao42, co42, eo42⟩ := Kd.R_slice HO320.out; subst eo42) | ((with_reducible refine gate_callee (f := 18) rfl ?_); refine goesL_ (some 14) rfl rfl Tryd.func18 (by kernel_rfl) rfl #[.agg #[.slice Ao41 t315.length co41, .slice Ao42 t318.length co42]] rfl (by (try simp only [List.map_toArray, List.map_cons, List.map_nil]); first | done | rfl | (simp only [List.length_drop, List.length_take]; rfl)) ?_; (with_reducible refine (spec_CountStandard.calls k _ _ t315 _ _ t318 t321 _ ?side1 ?side2 ?side3 ?side4 A8.out).mono ?_); (case side1 => repeat (first | exact (Kd.R_reads' HO317.out).2.2 | (with_reducible refine Kd.C_alloc ?_ _) | (with_reducible refine Kd.C_drewN ?_ _) | (with_reducible refine Kd.C_drew ?_))); (case side2 => exact (Kd.R_reads' HO317.out).2.1); (case side3 => repeat (first | exact (Kd.R_reads' HO320.out).2.2 | (with_reducible refine Kd.C_alloc ?_ _) | (with_reducible refine Kd.C_drewN ?_ _) | (with_reducible refine Kd.C_drew ?_))); (case side4 => exact (Kd.R_reads' HO320.out).2.1); rintro e w43 ⟨rfl, hb⟩; refine ⟨_, rfl, ?_⟩; have n0_ := Aside0.mk (Kd.R_below (by (with_reducible repeat (first | apply Kd.R_alloc | apply Kd.R_drewN | apply Kd.R_drew)); exact HO317.out) hb); have n1_ := Aside0.mk (Kd.R_below (by (with_reducible repeat (first | apply Kd.R_alloc | apply Kd.R_drewN | apply Kd.R_drew)); exact HO320.out) hb); have n2_ := Aside0.mk (blk_below (g := gb313) (o := .cells #[.slice A0_0 l0_0.length c0_0, .slice A0_1 l0_1.length c0_1] 35 (0, 0)) (by (with_reducible repeat (first | refine blk_drewN ?_ _ | refine blk_drew ?_ | refine blk_alloc ?_ _)); exact BK313.out) hb); have n3_ := Aside0.mk (below_step (by repeat (first | (with_reducible first | exact HB.out | apply below_alloc | apply pw_below_drewN | apply below_drew1 | refine below_set ?_ GE313.out) | exact HB.out)) hb); clear HO317; clear HO320; clear BK313; clear HB; have HO317 := n0_; have HO320 := n1_; have BK313 := n2_; have HB := n3_; clear n0_ n1_ n2_ n3_; (try clear hb); (try clear hb2); (try clear hk); (try clear hi); have hcz44_0 : w43.cell? ⟨gb313, 0, none⟩ = some (.slice A0_0 l0_0.length c0_0) := (blk_cell BK313.out 0).trans rfl; have hcz44_1 : w43.cell? ⟨gb313, 1, none⟩ = some (.slice A0_1 l0_1.length c0_1) := (blk_cell BK313.out 1).trans rfl; have hfz44_0 := blk_frozen BK313.out 0; have hfz44_1 := blk_frozen BK313.out 1) | ((with_reducible refine gate_callee (f := 19) rfl ?_); refine goesL_ (some 16) rfl rfl Tryd.func19 (by kernel_rfl) rfl #[.agg #[.slice A0_0 l0_0.length c0_0, .slice A0_1 l0_1.length c0_1]] rfl (by (try simp only [List.map_toArray, List.map_cons, List.map_nil]); first | done | rfl | (simp only [List.length_drop, List.length_take]; rfl)) ?_; (with_reducible refine (laws_toShape.calls k _ _ l0_0 _ _ l0_1 t322 t325 _ ?side1 ?side2 ?side3 ?side4 A9.out).mono ?_); (case side1 => repeat (first | exact (Kd.C_below HR0_0.out HB.out) | (with_reducible refine Kd.C_alloc ?_ _) | (with_reducible refine Kd.C_drewN ?_ _) | (with_reducible refine Kd.C_drew ?_))); (case side2 => exact HC0_0.out); (case side3 => repeat (first | exact (Kd.C_below HR0_1.out HB.out) | (with_reducible refine Kd.C_alloc ?_ _) | (with_reducible refine Kd.C_drewN ?_ _) | (with_reducible refine Kd.C_drew ?_))); (case side4 => exact HC0_1.out); rintro e w45 ⟨v323, v326, rfl, ho0, ho1, hb⟩; refine ⟨_, rfl, ?_⟩; have n0_ := Aside0.mk (Kd.R_mono (Kd.R_told (Kd.R_told (Kd.R_old (by (with_reducible repeat (first | apply Kd.R_alloc | apply Kd.R_drewN | apply Kd.R_drew)); exact HO317.out) hb) (Kd.R_base ho0)) (Kd.R_base ho1)) (fun _ h_ => h_.1)); have n1_ := Aside0.mk (Kd.R_mono (Kd.R_told (Kd.R_told (Kd.R_old (by (with_reducible repeat (first | apply Kd.R_alloc | apply Kd.R_drewN | apply Kd.R_drew)); exact HO320.out) hb) (Kd.R_base ho0)) (Kd.R_base ho1)) (fun _ h_ => h_.1)); have n2_ := Aside0.mk (Kd.R_lower (Kd.R_new' (Kd.R_new' ho0 (Kd.R_lt (by (with_reducible repeat (first | apply Kd.R_alloc | apply Kd.R_drewN | apply Kd.R_drew)); exact HO317.out))) (Kd.R_lt (by (with_reducible repeat (first | apply Kd.R_alloc | apply Kd.R_drewN | apply Kd.R_drew)); exact HO320.out))) (below_size (by repeat (first | (with_reducible first | exact HB.out | apply below_alloc | apply pw_below_drewN | apply below_drew1 | refine below_set ?_ GE313.out) | exact HB.out)))); have n3_ := Aside0.mk (Kd.R_lower (Kd.R_new' (Kd.R_new' ho1 (Kd.R_lt (by (with_reducible repeat (first | apply Kd.R_alloc | apply Kd.R_drewN | apply Kd.R_drew)); exact HO317.out))) (Kd.R_lt (by (with_reducible repeat (first | apply Kd.R_alloc | apply Kd.R_drewN | apply Kd.R_drew)); exact HO320.out))) (below_size (by repeat (first | (with_reducible first | exact HB.out | apply below_alloc | apply pw_below_drewN | apply below_drew1 | refine below_set ?_ GE313.out) | exact HB.out)))); have n4_ := Aside0.mk (blk_below (g := gb313) (o := .cells #[.slice A0_0 l0_0.length c0_0, .slice A0_1 l0_1.length c0_1] 35 (0, 0)) (by (with_reducible repeat (first | refine blk_drewN ?_ _ | refine blk_drew ?_ | refine blk_alloc ?_ _)); exact BK313.out) hb); have n5_ := Aside0.mk (below_step (by repeat (first | (with_reducible first | exact HB.out | apply below_alloc | apply pw_below_drewN | apply below_drew1 | refine below_set ?_ GE313.out) | exact HB.out)) hb); clear HO317; clear HO320; clear BK313; clear HB; have HO317 := n0_; have HO320 := n1_; have HO324 := n2_; have HO327 := n3_; have BK313 := n4_; have HB := n5_; clear n0_ n1_ n2_ n3_ n4_ n5_; (try clear hb); (try clear hb2); (try clear hk); (try clear hi); (try clear ho0); (try clear ho1)) | ((with_reducible refine gate_dst (N := 5) rfl ?_); refine box_event ?hg (N := 5) ?hd (cs := #[.slice none 0 0, .slice none 0 0]) (t := 38) ?hr ?_; (case hd => rfl); (case hg => rfl); (case hr => first | (go_simp; done) | (go_simp; rfl)); intro gb328 hg w46 hbox hb; have n0_ := Aside0.mk (Kd.R_below (by (with_reducible repeat (first | apply Kd.R_alloc | apply Kd.R_drewN | apply Kd.R_drew)); exact HO317.out) hb); have n1_ := Aside0.mk (Kd.R_below (by (with_reducible repeat (first | apply Kd.R_alloc | apply Kd.R_drewN | apply Kd.R_drew)); exact HO320.out) hb); have n2_ := Aside0.mk (Kd.R_below (by (with_reducible repeat (first | apply Kd.R_alloc | apply Kd.R_drewN | apply Kd.R_drew)); exact HO324.out) hb); have n3_ := Aside0.mk (Kd.R_below (by (with_reducible repeat (first | apply Kd.R_alloc | apply Kd.R_drewN | apply Kd.R_drew)); exact HO327.out) hb); have n4_ := Aside0.mk (blk_below (g := gb313) (o := .cells #[.slice A0_0 l0_0.length c0_0, .slice A0_1 l0_1.length c0_1] 35 (0, 0)) (by (with_reducible repeat (first | refine blk_drewN ?_ _ | refine blk_drew ?_ | refine blk_alloc ?_ _)); exact BK313.out) hb); have n5_ := Aside0.mk (below_step (by repeat (first | (with_reducible first | exact HB.out | apply below_alloc | apply pw_below_drewN | apply below_drew1 | refine below_set ?_ GE313.out) | exact HB.out)) hb); have n6_ := Aside0.mk (hbox); have n7_ := Aside0.mk ((by rw [hg]; exact (below_size (by repeat (first | (with_reducible first | exact HB.out | apply below_alloc | apply pw_below_drewN | apply below_drew1 | refine below_set ?_ GE313.out) | exact HB.out))) : w.heap.size ≤ gb328)); have n8_ := Aside0.mk ((by rw [hg]; exact (below_size (by repeat (first | (with_reducible first | exact HB.out | apply below_alloc | apply pw_below_drewN | apply below_drew1 | refine below_set ?_ GE313.out) | exact HB.out))) : w.heap.size ≤ gb328)); have n9_ := Aside0.mk ((by rw [hg]; exact Nat.ne_of_lt (blk_lt (g := gb313) (o := .cells #[.slice A0_0 l0_0.length c0_0, .slice A0_1 l0_1.length c0_1] 35 (0, 0)) (by (with_reducible repeat (first | refine blk_drewN ?_ _ | refine blk_drew ?_ | refine blk_alloc ?_ _)); exact BK313.out)) : gb313 ≠ gb328)); have n10_ := Aside0.mk ((by rw [hg]; exact Nat.ne_of_gt (blk_lt (g := gb313) (o := .cells #[.slice A0_0 l0_0.length c0_0, .slice A0_1 l0_1.length c0_1] 35 (0, 0)) (by (with_reducible repeat (first | refine blk_drewN ?_ _ | refine blk_drew ?_ | refine blk_alloc ?_ _)); exact BK313.out)) : gb328 ≠ gb313)); clear HO317; clear HO320; clear HO324; clear HO327; clear BK313; clear HB; have HO317 := n0_; have HO320 := n1_; have HO324 := n2_; have HO327 := n3_; have BK313 := n4_; have HB := n5_; have BK328 := n6_; have GW328 := n7_; have GE328 := n8_; have NB313_328 := n9_; have NB328_313 := n10_; clear n0_ n1_ n2_ n3_ n4_ n5_ n6_ n7_ n8_ n9_ n10_; clear hb hbox hg; obtain ⟨Ao47, co47, eo47⟩ := Kd.R_slice HO324.out; subst eo47; have hnb48 := NB328_313.out; have hnc48 := NB313_328.out; have hcz49_0 : w46.cell? ⟨gb328, 0, none⟩ = some (.slice none 0 0) := (blk_cell BK328.out 0).trans rfl; have hcz49_1 : w46.cell? ⟨gb328, 1, none⟩ = some (.slice none 0 0) := (blk_cell BK328.out 1).trans rfl; have hfz49_0 := blk_frozen BK328.out 0; have hfz49_1 := blk_frozen BK328.out 1; obtain ⟨Ao50, co50, eo50⟩ := Kd.R_slice HO327.out; subst eo50) | ((with_reducible refine gate_callee (f := 20) rfl ?_); refine goesL_ (some 18) rfl rfl Tryd.func20 (by kernel_rfl) rfl #[.agg #[.slice Ao47 t322.length co47, .slice Ao50 t325.length co50]] rfl (by (try simp only [List.map_toArray, List.map_cons, List.map_nil]); first | done | rfl | (simp only [List.length_drop, List.length_take]; rfl)) ?_; (with_reducible refine (impl_CountStandard.calls k _ _ t322 _ _ t325 t329 _ ?side1 ?side2 ?side3 ?side4 A10.out).mono ?_); (case side1 => refine (Kd.R_reads' (e := 3) (base := w.heap.size) (ok := fun k_ => ((some k_ ≠ (.slice Ao50 t325.length co50 : Value).ownBlock ∧ some k_ ≠ (.slice Ao41 t315.length co41 : Value).ownBlock) ∧ some k_ ≠ (.slice Ao42 t318.length co42 : Value).ownBlock)) (n := t322.length) (c := co47) ?_).2.2; exact (by (with_reducible repeat (first | apply Kd.R_alloc | apply Kd.R_drewN | apply Kd.R_drew)); exact (Kd.R_mono (Kd.R_far (p := ⟨gb328, 1, none⟩) (Kd.R_far (p := ⟨gb328, 0, none⟩) (Kd.R_types HO324.out BK328.out (by decide)) (fun _ hk => hk.2) (.slice Ao47 t322.length co47)) (fun _ hk => hk.2) (.slice Ao50 t325.length co50)) (fun _ h_ => h_.1)))); (case side2 => exact (Kd.R_reads' HO324.out).2.1); (case side3 => refine (Kd.R_reads' (e := 3) (base := w.heap.size) (ok := fun k_ => ((some k_ ≠ (.slice Ao47 t322.length co47 : Value).ownBlock ∧ some k_ ≠ (.slice Ao41 t315.length co41 : Value).ownBlock) ∧ some k_ ≠ (.slice Ao42 t318.length co42 : Value).ownBlock)) (n := t325.length) (c := co50) ?_).2.2; exact (by (with_reducible repeat (first | apply Kd.R_alloc | apply Kd.R_drewN | apply Kd.R_drew)); exact (Kd.R_mono (Kd.R_far (p := ⟨gb328, 1, none⟩) (Kd.R_far (p := ⟨gb328, 0, none⟩) (Kd.R_types HO327.out BK328.out (by decide)) (fun _ hk => hk.2) (.slice Ao47 t322.length co47)) (fun _ hk => hk.2) (.slice Ao50 t325.length co50)) (fun _ h_ => h_.1)))); (case side4 => exact (Kd.R_reads' HO327.out).2.1); rintro e w51 ⟨rfl, hb⟩; refine ⟨_, rfl, ?_⟩; have n0_ := Aside0.mk (Kd.R_below (by (with_reducible repeat (first | apply Kd.R_alloc | apply Kd.R_drewN | apply Kd.R_drew)); exact (Kd.R_mono (Kd.R_far (p := ⟨gb328, 1, none⟩) (Kd.R_far (p := ⟨gb328, 0, none⟩) (Kd.R_types HO317.out BK328.out (by decide)) (fun _ hk => hk.2) (.slice Ao47 t322.length co47)) (fun _ hk => hk.2) (.slice Ao50 t325.length co50)) (fun _ h_ => h_.1))) hb); have n1_ := Aside0.mk (Kd.R_below (by (with_reducible repeat (first | apply Kd.R_alloc | apply Kd.R_drewN | apply Kd.R_drew)); exact (Kd.R_mono (Kd.R_far (p := ⟨gb328, 1, none⟩) (Kd.R_far (p := ⟨gb328, 0, none⟩) (Kd.R_types HO320.out BK328.out (by decide)) (fun _ hk => hk.2) (.slice Ao47 t322.length co47)) (fun _ hk => hk.2) (.slice Ao50 t325.length co50)) (fun _ h_ => h_.1))) hb); have n2_ := Aside0.mk (Kd.R_below (by (with_reducible repeat (first | apply Kd.R_alloc | apply Kd.R_drewN | apply Kd.R_drew)); exact (Kd.R_mono (Kd.R_far (p := ⟨gb328, 1, none⟩) (Kd.R_far (p := ⟨gb328, 0, none⟩) (Kd.R_types HO324.out BK328.out (by decide)) (fun _ hk => hk.2) (.slice Ao47 t322.length co47)) (fun _ hk => hk.2) (.slice Ao50 t325.length co50)) (fun _ h_ => h_.1))) hb); have n3_ := Aside0.mk (Kd.R_below (by (with_reducible repeat (first | apply Kd.R_alloc | apply Kd.R_drewN | apply Kd.R_drew)); exact (Kd.R_mono (Kd.R_far (p := ⟨gb328, 1, none⟩) (Kd.R_far (p := ⟨gb328, 0, none⟩) (Kd.R_types HO327.out BK328.out (by decide)) (fun _ hk => hk.2) (.slice Ao47 t322.length co47)) (fun _ hk => hk.2) (.slice Ao50 t325.length co50)) (fun _ h_ => h_.1))) hb); have n4_ := Aside0.mk (blk_below (g := gb313) (o := .cells #[.slice A0_0 l0_0.length c0_0, .slice A0_1 l0_1.length c0_1] 35 (0, 0)) (by (with_reducible repeat (first | refine blk_drewN ?_ _ | refine blk_drew ?_ | refine blk_alloc ?_ _)); refine blk_far ?_ NB313_328.out _; (with_reducible repeat (first | refine blk_drewN ?_ _ | refine blk_drew ?_ | refine blk_alloc ?_ _)); refine blk_far ?_ NB313_328.out _; (with_reducible repeat (first | refine blk_drewN ?_ _ | refine blk_drew ?_ | refine blk_alloc ?_ _)); exact BK313.out) hb); have n5_ := Aside0.mk (blk_below (g := gb328) (o := .cells #[.slice Ao47 t322.length co47, .slice Ao50 t325.length co50] 38 (0, 0)) (by (with_reducible repeat (first | refine blk_drewN ?_ _ | refine blk_drew ?_ | refine blk_alloc ?_ _)); refine blk_put (cs := #[.slice Ao47 t322.length co47, .slice none 0 0]) ?_ 1 _ rfl; (with_reducible repeat (first | refine blk_drewN ?_ _ | refine blk_drew ?_ | refine blk_alloc ?_ _)); refine blk_put (cs := #[.slice none 0 0, .slice none 0 0]) ?_ 0 _ rfl; (with_reducible repeat (first | refine blk_drewN ?_ _ | refine blk_drew ?_ | refine blk_alloc ?_ _)); exact BK328.out) hb); have n6_ := Aside0.mk (below_step (by repeat (first | (with_reducible first | exact HB.out | apply below_alloc | apply pw_below_drewN | apply below_drew1 | refine below_set ?_ GE313.out | refine below_set ?_ GE328.out) | exact HB.out)) hb); clear HO317; clear HO320; clear HO324; clear HO327; clear BK313; clear BK328; clear HB; have HO317 := n0_; have HO320 := n1_; have HO324 := n2_; have HO327 := n3_; have BK313 := n4_; have BK328 := n5_; have HB := n6_; clear n0_ n1_ n2_ n3_ n4_ n5_ n6_; (try clear hb); (try clear hb2); (try clear hk); (try clear hi)))
        have n0_ := Aside0.mk (Kd.R_drew HO317.out)
        have n1_ := Aside0.mk (Kd.R_drew HO320.out)
        have n2_ := Aside0.mk (Kd.R_drew HO324.out)
        have n3_ := Aside0.mk (Kd.R_drew HO327.out)
        have n4_ := Aside0.mk (blk_drew BK313.out)
        have n5_ := Aside0.mk (blk_drew BK328.out)
        have n6_ := Aside0.mk (below_drew1 HB.out)
        clear HO317
        clear HO320
        clear HO324
        clear HO327
        clear BK313
        clear BK328
        clear HB
        have HO317 := n0_
        have HO320 := n1_
        have HO324 := n2_
        have HO327 := n3_
        have BK313 := n4_
        have BK328 := n5_
        have HB := n6_
        clear n0_ n1_ n2_ n3_ n4_ n5_ n6_
        refine start_ (n := 5) (S := fun w' => w'.cell? ⟨gb328, 0, none⟩ = some (.slice Ao47 t322.length co47) ∧ w'.cell? ⟨gb328, 1, none⟩ = some (.slice Ao50 t325.length co50) ∧ w'.cell? ⟨gb313, 0, none⟩ = some (.slice A0_0 l0_0.length c0_0) ∧ w'.cell? ⟨gb313, 1, none⟩ = some (.slice A0_1 l0_1.length c0_1)) (ds := []) #[false, false, false, false, false] (by kernel_rfl) rfl rfl ⟨(blk_cell BK328.out 0).trans rfl, (blk_cell BK328.out 1).trans rfl, (blk_cell BK313.out 0).trans rfl, (blk_cell BK313.out 1).trans rfl⟩ (fun hHeld => ?_)
        generalize w51.drew = w52 at HO317 HO320 HO324 HO327 BK313 BK328 HB hHeld ⊢
        refine take_ (i := 0) (N := some 22) (v := ?_) (a' := ?_) #[true, false, false, false, false] rfl rfl (by kernel_rfl) (fun _ _ _ h => h) (Or.inl ⟨by rfl, ?_⟩) hHeld ?_ ?_
        rotate_left
        · rintro w' ⟨s0, s1, s2, s3⟩
          go_simp
          with_reducible rfl
        rotate_left
        · simp only [Act.put, List.setIfInBounds_toArray, List.set_cons_zero, List.set_cons_succ, i64_w, i32_w]
          rfl
        refine take_ (i := 1) (N := some 23) (v := ?_) (a' := ?_) #[true, true, false, false, false] rfl rfl (by kernel_rfl) (fun _ _ _ h => h) (Or.inl ⟨by rfl, ?_⟩) hHeld ?_ ?_
        rotate_left
        · rintro w' ⟨s0, s1, s2, s3⟩
          go_simp
          with_reducible rfl
        rotate_left
        · simp only [Act.put, List.setIfInBounds_toArray, List.set_cons_zero, List.set_cons_succ, i64_w, i32_w]
          rfl
        refine one_ (i := 2) (N := some 24) #[true, true, true, false, false] rfl rfl (by kernel_rfl) (by decide) (fun K hK => ?_)
        refine goes_ Tryd.func19 (by kernel_rfl) rfl #[.agg #[.slice A0_0 l0_0.length c0_0, .slice A0_1 l0_1.length c0_1]] (by rfl) rfl rfl (by (try simp only [List.map_toArray, List.map_cons, List.map_nil]); first | done | rfl | (simp only [List.length_drop, List.length_take]; rfl)) ?_
        with_reducible refine (laws_toShape.calls k _ _ l0_0 _ _ l0_1 t330 t333 _ ?side1 ?side2 ?side3 ?side4 A12.out).mono ?_
        (case side1 => repeat (first | exact (Kd.C_below HR0_0.out HB.out) | (with_reducible refine Kd.C_alloc ?_ _) | (with_reducible refine Kd.C_drewN ?_ _) | (with_reducible refine Kd.C_drew ?_)))
        (case side2 => exact HC0_0.out)
        (case side3 => repeat (first | exact (Kd.C_below HR0_1.out HB.out) | (with_reducible refine Kd.C_alloc ?_ _) | (with_reducible refine Kd.C_drewN ?_ _) | (with_reducible refine Kd.C_drew ?_)))
        (case side4 => exact HC0_1.out)
        rintro e w53 ⟨v331, v334, rfl, ho0, ho1, hb⟩
        refine ⟨_, rfl, ?_⟩
        have n0_ := Aside0.mk (Kd.R_mono (Kd.R_told (Kd.R_told (Kd.R_old (by (with_reducible repeat (first | apply Kd.R_alloc | apply Kd.R_drewN | apply Kd.R_drew)); exact HO317.out) hb) (Kd.R_base ho0)) (Kd.R_base ho1)) (fun _ h_ => h_.1))
        have n1_ := Aside0.mk (Kd.R_mono (Kd.R_told (Kd.R_told (Kd.R_old (by (with_reducible repeat (first | apply Kd.R_alloc | apply Kd.R_drewN | apply Kd.R_drew)); exact HO320.out) hb) (Kd.R_base ho0)) (Kd.R_base ho1)) (fun _ h_ => h_.1))
        have n2_ := Aside0.mk (Kd.R_mono (Kd.R_told (Kd.R_told (Kd.R_old (by (with_reducible repeat (first | apply Kd.R_alloc | apply Kd.R_drewN | apply Kd.R_drew)); exact HO324.out) hb) (Kd.R_base ho0)) (Kd.R_base ho1)) (fun _ h_ => h_.1))
        have n3_ := Aside0.mk (Kd.R_mono (Kd.R_told (Kd.R_told (Kd.R_old (by (with_reducible repeat (first | apply Kd.R_alloc | apply Kd.R_drewN | apply Kd.R_drew)); exact HO327.out) hb) (Kd.R_base ho0)) (Kd.R_base ho1)) (fun _ h_ => h_.1))
        have n4_ := Aside0.mk (Kd.R_lower (Kd.R_new' (Kd.R_new' (Kd.R_new' (Kd.R_new' ho0 (Kd.R_lt (by (with_reducible repeat (first | apply Kd.R_alloc | apply Kd.R_drewN | apply Kd.R_drew)); exact HO317.out))) (Kd.R_lt (by (with_reducible repeat (first | apply Kd.R_alloc | apply Kd.R_drewN | apply Kd.R_drew)); exact HO320.out))) (Kd.R_lt (by (with_reducible repeat (first | apply Kd.R_alloc | apply Kd.R_drewN | apply Kd.R_drew)); exact HO324.out))) (Kd.R_lt (by (with_reducible repeat (first | apply Kd.R_alloc | apply Kd.R_drewN | apply Kd.R_drew)); exact HO327.out))) (below_size (by repeat (first | (with_reducible first | exact HB.out | apply below_alloc | apply pw_below_drewN | apply below_drew1 | refine below_set ?_ GE313.out | refine below_set ?_ GE328.out) | exact HB.out))))
        have n5_ := Aside0.mk (Kd.R_lower (Kd.R_new' (Kd.R_new' (Kd.R_new' (Kd.R_new' ho1 (Kd.R_lt (by (with_reducible repeat (first | apply Kd.R_alloc | apply Kd.R_drewN | apply Kd.R_drew)); exact HO317.out))) (Kd.R_lt (by (with_reducible repeat (first | apply Kd.R_alloc | apply Kd.R_drewN | apply Kd.R_drew)); exact HO320.out))) (Kd.R_lt (by (with_reducible repeat (first | apply Kd.R_alloc | apply Kd.R_drewN | apply Kd.R_drew)); exact HO324.out))) (Kd.R_lt (by (with_reducible repeat (first | apply Kd.R_alloc | apply Kd.R_drewN | apply Kd.R_drew)); exact HO327.out))) (below_size (by repeat (first | (with_reducible first | exact HB.out | apply below_alloc | apply pw_below_drewN | apply below_drew1 | refine below_set ?_ GE313.out | refine below_set ?_ GE328.out) | exact HB.out))))
        have n6_ := Aside0.mk (blk_below (g := gb313) (o := .cells #[.slice A0_0 l0_0.length c0_0, .slice A0_1 l0_1.length c0_1] 35 (0, 0)) (by (with_reducible repeat (first | refine blk_drewN ?_ _ | refine blk_drew ?_ | refine blk_alloc ?_ _)); exact BK313.out) hb)
        have n7_ := Aside0.mk (blk_below (g := gb328) (o := .cells #[.slice Ao47 t322.length co47, .slice Ao50 t325.length co50] 38 (0, 0)) (by (with_reducible repeat (first | refine blk_drewN ?_ _ | refine blk_drew ?_ | refine blk_alloc ?_ _)); exact BK328.out) hb)
        have n8_ := Aside0.mk (below_step (by repeat (first | (with_reducible first | exact HB.out | apply below_alloc | apply pw_below_drewN | apply below_drew1 | refine below_set ?_ GE313.out | refine below_set ?_ GE328.out) | exact HB.out)) hb)
        clear HO317
        clear HO320
        clear HO324
        clear HO327
        clear BK313
        clear BK328
        clear HB
        have HO317 := n0_
        have HO320 := n1_
        have HO324 := n2_
        have HO327 := n3_
        have HO332 := n4_
        have HO335 := n5_
        have BK313 := n6_
        have BK328 := n7_
        have HB := n8_
        clear n0_ n1_ n2_ n3_ n4_ n5_ n6_ n7_ n8_
        (try clear hb)
        (try clear hb2)
        (try clear hk)
        (try clear hi)
        (try clear ho0)
        (try clear ho1)
        obtain ⟨Ao54, co54, eo54⟩ := Kd.R_slice HO332.out
        (first | subst eo54 | (injection eo54 with f1_ f2_ f3_; have f4_ := f1_.symm; have f5_ := f3_.symm; clear f1_ f2_ f3_; subst f4_; subst f5_))
        obtain ⟨Ao55, co55, eo55⟩ := Kd.R_slice HO335.out
        (first | subst eo55 | (injection eo55 with f1_ f2_ f3_; have f4_ := f1_.symm; have f5_ := f3_.symm; clear f1_ f2_ f3_; subst f4_; subst f5_))
        refine hK.out _ _ ⟨(blk_cell BK328.out 0).trans rfl, (blk_cell BK328.out 1).trans rfl, (blk_cell BK313.out 0).trans rfl, (blk_cell BK313.out 1).trans rfl⟩ (fun hHeld => ?_)
        clear hK K
        refine norm_ (a' := ?_) ?_ ?_
        rotate_left
        · show Act.put _ (some 24) _ = _
          simp only [Act.put, List.setIfInBounds_toArray, List.set_cons_zero, List.set_cons_succ, i64_w, i32_w]
          rfl
        refine one_ (i := 3) (N := some 25) #[true, true, true, true, false] rfl rfl (by kernel_rfl) (by decide) (fun K hK => ?_)
        refine goes_ Tryd.func21 (by kernel_rfl) rfl #[.agg #[.slice Ao47 t322.length co47, .slice Ao50 t325.length co50], .agg #[.slice Ao54 t330.length co54, .slice Ao55 t333.length co55]] (by rfl) rfl rfl (by (try simp only [List.map_toArray, List.map_cons, List.map_nil]); first | done | rfl | (simp only [List.length_drop, List.length_take]; rfl)) ?_
        with_reducible refine (laws_eqShape.calls k _ _ t322 _ _ t325 _ _ t330 _ _ t333 false _ ?side1 ?side2 ?side3 ?side4 ?side5 ?side6 ?side7 ?side8 A13.out).mono ?_
        (case side1 => repeat (first | exact (Kd.R_reads' HO324.out).2.2 | (with_reducible refine Kd.C_alloc ?_ _) | (with_reducible refine Kd.C_drewN ?_ _) | (with_reducible refine Kd.C_drew ?_)))
        (case side2 => exact (Kd.R_reads' HO324.out).2.1)
        (case side3 => repeat (first | exact (Kd.R_reads' HO327.out).2.2 | (with_reducible refine Kd.C_alloc ?_ _) | (with_reducible refine Kd.C_drewN ?_ _) | (with_reducible refine Kd.C_drew ?_)))
        (case side4 => exact (Kd.R_reads' HO327.out).2.1)
        (case side5 => repeat (first | exact (Kd.R_reads' HO332.out).2.2 | (with_reducible refine Kd.C_alloc ?_ _) | (with_reducible refine Kd.C_drewN ?_ _) | (with_reducible refine Kd.C_drew ?_)))
        (case side6 => exact (Kd.R_reads' HO332.out).2.1)
        (case side7 => repeat (first | exact (Kd.R_reads' HO335.out).2.2 | (with_reducible refine Kd.C_alloc ?_ _) | (with_reducible refine Kd.C_drewN ?_ _) | (with_reducible refine Kd.C_drew ?_)))
        (case side8 => exact (Kd.R_reads' HO335.out).2.1)
        rintro e w56 ⟨rfl, hb⟩
        refine ⟨_, rfl, ?_⟩
        have n0_ := Aside0.mk (Kd.R_below (by (with_reducible repeat (first | apply Kd.R_alloc | apply Kd.R_drewN | apply Kd.R_drew)); exact HO317.out) hb)
        have n1_ := Aside0.mk (Kd.R_below (by (with_reducible repeat (first | apply Kd.R_alloc | apply Kd.R_drewN | apply Kd.R_drew)); exact HO320.out) hb)
        have n2_ := Aside0.mk (Kd.R_below (by (with_reducible repeat (first | apply Kd.R_alloc | apply Kd.R_drewN | apply Kd.R_drew)); exact HO324.out) hb)
        have n3_ := Aside0.mk (Kd.R_below (by (with_reducible repeat (first | apply Kd.R_alloc | apply Kd.R_drewN | apply Kd.R_drew)); exact HO327.out) hb)
        have n4_ := Aside0.mk (Kd.R_below (by (with_reducible repeat (first | apply Kd.R_alloc | apply Kd.R_drewN | apply Kd.R_drew)); exact HO332.out) hb)
        have n5_ := Aside0.mk (Kd.R_below (by (with_reducible repeat (first | apply Kd.R_alloc | apply Kd.R_drewN | apply Kd.R_drew)); exact HO335.out) hb)
        have n6_ := Aside0.mk (blk_below (g := gb313) (o := .cells #[.slice A0_0 l0_0.length c0_0, .slice A0_1 l0_1.length c0_1] 35 (0, 0)) (by (with_reducible repeat (first | refine blk_drewN ?_ _ | refine blk_drew ?_ | refine blk_alloc ?_ _)); exact BK313.out) hb)
        have n7_ := Aside0.mk (blk_below (g := gb328) (o := .cells #[.slice Ao47 t322.length co47, .slice Ao50 t325.length co50] 38 (0, 0)) (by (with_reducible repeat (first | refine blk_drewN ?_ _ | refine blk_drew ?_ | refine blk_alloc ?_ _)); exact BK328.out) hb)
        have n8_ := Aside0.mk (below_step (by repeat (first | (with_reducible first | exact HB.out | apply below_alloc | apply pw_below_drewN | apply below_drew1 | refine below_set ?_ GE313.out | refine below_set ?_ GE328.out) | exact HB.out)) hb)
        clear HO317
        clear HO320
        clear HO324
        clear HO327
        clear HO332
        clear HO335
        clear BK313
        clear BK328
        clear HB
        have HO317 := n0_
        have HO320 := n1_
        have HO324 := n2_
        have HO327 := n3_
        have HO332 := n4_
        have HO335 := n5_
        have BK313 := n6_
        have BK328 := n7_
        have HB := n8_
        clear n0_ n1_ n2_ n3_ n4_ n5_ n6_ n7_ n8_
        (try clear hb)
        (try clear hb2)
        (try clear hk)
        (try clear hi)
        refine hK.out _ _ ⟨(blk_cell BK328.out 0).trans rfl, (blk_cell BK328.out 1).trans rfl, (blk_cell BK313.out 0).trans rfl, (blk_cell BK313.out 1).trans rfl⟩ (fun hHeld => ?_)
        clear hK K
        refine norm_ (a' := ?_) ?_ ?_
        rotate_left
        · show Act.put _ (some 25) _ = _
          simp only [Act.put, List.setIfInBounds_toArray, List.set_cons_zero, List.set_cons_succ, i64_w, i32_w]
          rfl
        refine pure_ (i := 4) (N := some 26) (v := ?_) (a' := ?_) #[true, true, true, true, true] rfl rfl (by kernel_rfl) (fun _ _ _ h => h) (Or.inl ⟨by rfl, ?_⟩) ?_ ?_
        rotate_left
        · intro w'
          go_simp
          with_reducible rfl
        rotate_left
        · simp only [Act.put, List.setIfInBounds_toArray, List.set_cons_zero, List.set_cons_succ, i64_w, i32_w]
          rfl
        refine done_ (by kernel_rfl) ?_
        try go_wp2
        go_ret
        exact ⟨by first | rfl | (simp [errW_none, errW_some] <;> rfl) | (simp [*, errW_none, errW_some] <;> rfl), by repeat (first | (with_reducible first | exact HB.out | apply below_alloc | apply pw_below_drewN | apply below_drew1 | refine below_set ?_ GE313.out | refine below_set ?_ GE328.out) | exact HB.out)⟩
    · rw [if_neg c11] at H
      have c11b0 : (t329 == t321) = false := beq_eq_false_iff_ne.mpr c11
      have c11b1 : (t329 != t321) = true := bne_iff_ne.mpr c11
      obtain rfl := Option.some.inj H
      go_enter Tryd.func5, Tryd.ntmps5
      go_wp2_with (first | ((with_reducible refine gate_dst (N := 1) rfl ?_); refine box_event ?hg (N := 1) ?hd (cs := #[.slice A0_0 l0_0.length c0_0, .slice A0_1 l0_1.length c0_1]) (t := 35) ?hr ?_; (case hd => rfl); (case hg => rfl); (case hr => first | (go_simp; done) | (go_simp; rfl)); intro gb313 hg w57 hbox hb; have n0_ := Aside0.mk (below_step (by repeat (first | (with_reducible first | exact HB.out | apply below_alloc | apply pw_below_drewN | apply below_drew1) | exact HB.out)) hb); have n1_ := Aside0.mk (hbox); have n2_ := Aside0.mk ((by rw [hg]; exact (below_size (by repeat (first | (with_reducible first | exact HB.out | apply below_alloc | apply pw_below_drewN | apply below_drew1) | exact HB.out))) : w.heap.size ≤ gb313)); have n3_ := Aside0.mk ((by rw [hg]; exact (below_size (by repeat (first | (with_reducible first | exact HB.out | apply below_alloc | apply pw_below_drewN | apply below_drew1) | exact HB.out))) : w.heap.size ≤ gb313)); clear HB; have HB := n0_; have BK313 := n1_; have GW313 := n2_; have GE313 := n3_; clear n0_ n1_ n2_ n3_; clear hb hbox hg; have hcz58_0 : w57.cell? ⟨gb313, 0, none⟩ = some (.slice A0_0 l0_0.length c0_0) := (blk_cell BK313.out 0).trans rfl; have hcz58_1 : w57.cell? ⟨gb313, 1, none⟩ = some (.slice A0_1 l0_1.length c0_1) := (blk_cell BK313.out 1).trans rfl; have hfz58_0 := blk_frozen BK313.out 0; have hfz58_1 := blk_frozen BK313.out 1) | ((with_reducible refine gate_callee (f := 17) rfl ?_); refine goesL_ (some 9) rfl rfl Tryd.func17 (by kernel_rfl) rfl #[.agg #[.slice A0_0 l0_0.length c0_0, .slice A0_1 l0_1.length c0_1], .int .i64 1048576] rfl (by (try simp only [List.map_toArray, List.map_cons, List.map_nil]); first | done | rfl | (simp only [List.length_drop, List.length_take]; rfl)) ?_; (with_reducible refine (laws_szShape.calls _ _ l0_0 _ _ l0_1 1048576 t314 _ ?side1 ?side2 ?side3 ?side4 A2.out).mono ?_); (case side1 => repeat (first | exact (Kd.C_below HR0_0.out HB.out) | (with_reducible refine Kd.C_alloc ?_ _) | (with_reducible refine Kd.C_drewN ?_ _) | (with_reducible refine Kd.C_drew ?_))); (case side2 => exact HC0_0.out); (case side3 => repeat (first | exact (Kd.C_below HR0_1.out HB.out) | (with_reducible refine Kd.C_alloc ?_ _) | (with_reducible refine Kd.C_drewN ?_ _) | (with_reducible refine Kd.C_drew ?_))); (case side4 => exact HC0_1.out); rintro e w59 ⟨rfl, hb⟩; refine ⟨_, rfl, ?_⟩; have n0_ := Aside0.mk (blk_below (g := gb313) (o := .cells #[.slice A0_0 l0_0.length c0_0, .slice A0_1 l0_1.length c0_1] 35 (0, 0)) (by (with_reducible repeat (first | refine blk_drewN ?_ _ | refine blk_drew ?_ | refine blk_alloc ?_ _)); exact BK313.out) hb); have n1_ := Aside0.mk (below_step (by repeat (first | (with_reducible first | exact HB.out | apply below_alloc | apply pw_below_drewN | apply below_drew1 | refine below_set ?_ GE313.out) | exact HB.out)) hb); clear BK313; clear HB; have BK313 := n0_; have HB := n1_; clear n0_ n1_; (try clear hb); (try clear hb2); (try clear hk); (try clear hi); have hcz60_0 : w59.cell? ⟨gb313, 0, none⟩ = some (.slice A0_0 l0_0.length c0_0) := (blk_cell BK313.out 0).trans rfl; have hcz60_1 : w59.cell? ⟨gb313, 1, none⟩ = some (.slice A0_1 l0_1.length c0_1) := (blk_cell BK313.out 1).trans rfl; have hfz60_0 := blk_frozen BK313.out 0; have hfz60_1 := blk_frozen BK313.out 1) | ((with_reducible refine gate_callee (f := 19) rfl ?_); refine goesL_ (some 13) rfl rfl Tryd.func19 (by kernel_rfl) rfl #[.agg #[.slice A0_0 l0_0.length c0_0, .slice A0_1 l0_1.length c0_1]] rfl (by (try simp only [List.map_toArray, List.map_cons, List.map_nil]); first | done | rfl | (simp only [List.length_drop, List.length_take]; rfl)) ?_; (with_reducible refine (laws_toShape.calls k _ _ l0_0 _ _ l0_1 t315 t318 _ ?side1 ?side2 ?side3 ?side4 A7.out).mono ?_); (case side1 => repeat (first | exact (Kd.C_below HR0_0.out HB.out) | (with_reducible refine Kd.C_alloc ?_ _) | (with_reducible refine Kd.C_drewN ?_ _) | (with_reducible refine Kd.C_drew ?_))); (case side2 => exact HC0_0.out); (case side3 => repeat (first | exact (Kd.C_below HR0_1.out HB.out) | (with_reducible refine Kd.C_alloc ?_ _) | (with_reducible refine Kd.C_drewN ?_ _) | (with_reducible refine Kd.C_drew ?_))); (case side4 => exact HC0_1.out); rintro e w61 ⟨v316, v319, rfl, ho0, ho1, hb⟩; refine ⟨_, rfl, ?_⟩; have n0_ := Aside0.mk (Kd.R_lower ho0 (below_size (by repeat (first | (with_reducible first | exact HB.out | apply below_alloc | apply pw_below_drewN | apply below_drew1 | refine below_set ?_ GE313.out) | exact HB.out)))); have n1_ := Aside0.mk (Kd.R_lower ho1 (below_size (by repeat (first | (with_reducible first | exact HB.out | apply below_alloc | apply pw_below_drewN | apply below_drew1 | refine below_set ?_ GE313.out) | exact HB.out)))); have n2_ := Aside0.mk (blk_below (g := gb313) (o := .cells #[.slice A0_0 l0_0.length c0_0, .slice A0_1 l0_1.length c0_1] 35 (0, 0)) (by (with_reducible repeat (first | refine blk_drewN ?_ _ | refine blk_drew ?_ | refine blk_alloc ?_ _)); exact BK313.out) hb); have n3_ := Aside0.mk (below_step (by repeat (first | (with_reducible first | exact HB.out | apply below_alloc | apply pw_below_drewN | apply below_drew1 | refine below_set ?_ GE313.out) | exact HB.out)) hb); clear BK313; clear HB; have HO317 := n0_; have HO320 := n1_; have BK313 := n2_; have HB := n3_; clear n0_ n1_ n2_ n3_; (try clear hb); (try clear hb2); (try clear hk); (try clear hi); (try clear ho0); (try clear ho1); obtain ⟨Ao62, co62, eo62⟩ := Kd.R_slice HO317.out; subst eo62; obtain ⟨Ao63, co63, eo63⟩ := Kd.R_slice HO320.out; subst eo63) | ((with_reducible refine gate_callee (f := 18) rfl ?_); refine goesL_ (some 14) rfl rfl Tryd.func18 (by kernel_rfl) rfl #[.agg #[.slice Ao62 t315.length co62, .slice Ao63 t318.length co63]] rfl (by (try simp only [List.map_toArray, List.map_cons, List.map_nil]); first | done | rfl | (simp only [List.length_drop, List.length_take]; rfl)) ?_; (with_reducible refine (spec_CountStandard.calls k _ _ t315 _ _ t318 t321 _ ?side1 ?side2 ?side3 ?side4 A8.out).mono ?_); (case side1 => repeat (first | exact (Kd.R_reads' HO317.out).2.2 | (with_reducible refine Kd.C_alloc ?_ _) | (with_reducible refine Kd.C_drewN ?_ _) | (with_reducible refine Kd.C_drew ?_))); (case side2 => exact (Kd.R_reads' HO317.out).2.1); (case side3 => repeat (first | exact (Kd.R_reads' HO320.out).2.2 | (with_reducible refine Kd.C_alloc ?_ _) | (with_reducible refine Kd.C_drewN ?_ _) | (with_reducible refine Kd.C_drew ?_))); (case side4 => exact (Kd.R_reads' HO320.out).2.1); rintro e w64 ⟨rfl, hb⟩; refine ⟨_, rfl, ?_⟩; have n0_ := Aside0.mk (Kd.R_below (by (with_reducible repeat (first | apply Kd.R_alloc | apply Kd.R_drewN | apply Kd.R_drew)); exact HO317.out) hb); have n1_ := Aside0.mk (Kd.R_below (by (with_reducible repeat (first | apply Kd.R_alloc | apply Kd.R_drewN | apply Kd.R_drew)); exact HO320.out) hb); have n2_ := Aside0.mk (blk_below (g := gb313) (o := .cells #[.slice A0_0 l0_0.length c0_0, .slice A0_1 l0_1.length c0_1] 35 (0, 0)) (by (with_reducible repeat (first | refine blk_drewN ?_ _ | refine blk_drew ?_ | refine blk_alloc ?_ _)); exact BK313.out) hb); have n3_ := Aside0.mk (below_step (by repeat (first | (with_reducible first | exact HB.out | apply below_alloc | apply pw_below_drewN | apply below_drew1 | refine below_set ?_ GE313.out) | exact HB.out)) hb); clear HO317; clear HO320; clear BK313; clear HB; have HO317 := n0_; have HO320 := n1_; have BK313 := n2_; have HB := n3_; clear n0_ n1_ n2_ n3_; (try clear hb); (try clear hb2); (try clear hk); (try clear hi); have hcz65_0 : w64.cell? ⟨gb313, 0, none⟩ = some (.slice A0_0 l0_0.length c0_0) := (blk_cell BK313.out 0).trans rfl; have hcz65_1 : w64.cell? ⟨gb313, 1, none⟩ = some (.slice A0_1 l0_1.length c0_1) := (blk_cell BK313.out 1).trans rfl; have hfz65_0 := blk_frozen BK313.out 0; have hfz65_1 := blk_frozen BK313.out 1) | ((with_reducible refine gate_callee (f := 19) rfl ?_); refine goesL_ (some 16) rfl rfl Tryd.func19 (by kernel_rfl) rfl #[.agg #[.slice A0_0 l0_0.length c0_0, .slice A0_1 l0_1.length c0_1]] rfl (by (try simp only [List.map_toArray, List.map_cons, List.map_nil]); first | done | rfl | (simp only [List.length_drop, List.length_take]; rfl)) ?_; (with_reducible refine (laws_toShape.calls k _ _ l0_0 _ _ l0_1 t322 t325 _ ?side1 ?side2 ?side3 ?side4 A9.out).mono ?_); (case side1 => repeat (first | exact (Kd.C_below HR0_0.out HB.out) | (with_reducible refine Kd.C_alloc ?_ _) | (with_reducible refine Kd.C_drewN ?_ _) | (with_reducible refine Kd.C_drew ?_))); (case side2 => exact HC0_0.out); (case side3 => repeat (first | exact (Kd.C_below HR0_1.out HB.out) | (with_reducible refine Kd.C_alloc ?_ _) | (with_reducible refine Kd.C_drewN ?_ _) | (with_reducible refine Kd.C_drew ?_))); (case side4 => exact HC0_1.out); rintro e w66 ⟨v323, v326, rfl, ho0, ho1, hb⟩; refine ⟨_, rfl, ?_⟩; have n0_ := Aside0.mk (Kd.R_mono (Kd.R_told (Kd.R_told (Kd.R_old (by (with_reducible repeat (first | apply Kd.R_alloc | apply Kd.R_drewN | apply Kd.R_drew)); exact HO317.out) hb) (Kd.R_base ho0)) (Kd.R_base ho1)) (fun _ h_ => h_.1)); have n1_ := Aside0.mk (Kd.R_mono (Kd.R_told (Kd.R_told (Kd.R_old (by (with_reducible repeat (first | apply Kd.R_alloc | apply Kd.R_drewN | apply Kd.R_drew)); exact HO320.out) hb) (Kd.R_base ho0)) (Kd.R_base ho1)) (fun _ h_ => h_.1)); have n2_ := Aside0.mk (Kd.R_lower (Kd.R_new' (Kd.R_new' ho0 (Kd.R_lt (by (with_reducible repeat (first | apply Kd.R_alloc | apply Kd.R_drewN | apply Kd.R_drew)); exact HO317.out))) (Kd.R_lt (by (with_reducible repeat (first | apply Kd.R_alloc | apply Kd.R_drewN | apply Kd.R_drew)); exact HO320.out))) (below_size (by repeat (first | (with_reducible first | exact HB.out | apply below_alloc | apply pw_below_drewN | apply below_drew1 | refine below_set ?_ GE313.out) | exact HB.out)))); have n3_ := Aside0.mk (Kd.R_lower (Kd.R_new' (Kd.R_new' ho1 (Kd.R_lt (by (with_reducible repeat (first | apply Kd.R_alloc | apply Kd.R_drewN | apply Kd.R_drew)); exact HO317.out))) (Kd.R_lt (by (with_reducible repeat (first | apply Kd.R_alloc | apply Kd.R_drewN | apply Kd.R_drew)); exact HO320.out))) (below_size (by repeat (first | (with_reducible first | exact HB.out | apply below_alloc | apply pw_below_drewN | apply below_drew1 | refine below_set ?_ GE313.out) | exact HB.out)))); have n4_ := Aside0.mk (blk_below (g := gb313) (o := .cells #[.slice A0_0 l0_0.length c0_0, .slice A0_1 l0_1.length c0_1] 35 (0, 0)) (by (with_reducible repeat (first | refine blk_drewN ?_ _ | refine blk_drew ?_ | refine blk_alloc ?_ _)); exact BK313.out) hb); have n5_ := Aside0.mk (below_step (by repeat (first | (with_reducible first | exact HB.out | apply below_alloc | apply pw_below_drewN | apply below_drew1 | refine below_set ?_ GE313.out) | exact HB.out)) hb); clear HO317; clear HO320; clear BK313; clear HB; have HO317 := n0_; have HO320 := n1_; have HO324 := n2_; have HO327 := n3_; have BK313 := n4_; have HB := n5_; clear n0_ n1_ n2_ n3_ n4_ n5_; (try clear hb); (try clear hb2); (try clear hk); (try clear hi); (try clear ho0); (try clear ho1)) | ((with_reducible refine gate_dst (N := 5) rfl ?_); refine box_event ?hg (N := 5) ?hd (cs := #[.slice none 0 0, .slice none 0 0]) (t := 38) ?hr ?_; (case hd => rfl); (case hg => rfl); (case hr => first | (go_simp; done) | (go_simp; rfl)); intro gb328 hg w67 hbox hb; have n0_ := Aside0.mk (Kd.R_below (by (with_reducible repeat (first | apply Kd.R_alloc | apply Kd.R_drewN | apply Kd.R_drew)); exact HO317.out) hb); have n1_ := Aside0.mk (Kd.R_below (by (with_reducible repeat (first | apply Kd.R_alloc | apply Kd.R_drewN | apply Kd.R_drew)); exact HO320.out) hb); have n2_ := Aside0.mk (Kd.R_below (by (with_reducible repeat (first | apply Kd.R_alloc | apply Kd.R_drewN | apply Kd.R_drew)); exact HO324.out) hb); have n3_ := Aside0.mk (Kd.R_below (by (with_reducible repeat (first | apply Kd.R_alloc | apply Kd.R_drewN | apply Kd.R_drew)); exact HO327.out) hb); have n4_ := Aside0.mk (blk_below (g := gb313) (o := .cells #[.slice A0_0 l0_0.length c0_0, .slice A0_1 l0_1.length c0_1] 35 (0, 0)) (by (with_reducible repeat (first | refine blk_drewN ?_ _ | refine blk_drew ?_ | refine blk_alloc ?_ _)); exact BK313.out) hb); have n5_ := Aside0.mk (below_step (by repeat (first | (with_reducible first | exact HB.out | apply below_alloc | apply pw_below_drewN | apply below_drew1 | refine below_set ?_ GE313.out) | exact HB.out)) hb); have n6_ := Aside0.mk (hbox); have n7_ := Aside0.mk ((by rw [hg]; exact (below_size (by repeat (first | (with_reducible first | exact HB.out | apply below_alloc | apply pw_below_drewN | apply below_drew1 | refine below_set ?_ GE313.out) | exact HB.out))) : w.heap.size ≤ gb328)); have n8_ := Aside0.mk ((by rw [hg]; exact (below_size (by repeat (first | (with_reducible first | exact HB.out | apply below_alloc | apply pw_below_drewN | apply below_drew1 | refine below_set ?_ GE313.out) | exact HB.out))) : w.heap.size ≤ gb328)); have n9_ := Aside0.mk ((by rw [hg]; exact Nat.ne_of_lt (blk_lt (g := gb313) (o := .cells #[.slice A0_0 l0_0.length c0_0, .slice A0_1 l0_1.length c0_1] 35 (0, 0)) (by (with_reducible repeat (first | refine blk_drewN ?_ _ | refine blk_drew ?_ | refine blk_alloc ?_ _)); exact BK313.out)) : gb313 ≠ gb328)); have n10_ := Aside0.mk ((by rw [hg]; exact Nat.ne_of_gt (blk_lt (g := gb313) (o := .cells #[.slice A0_0 l0_0.length c0_0, .slice A0_1 l0_1.length c0_1] 35 (0, 0)) (by (with_reducible repeat (first | refine blk_drewN ?_ _ | refine blk_drew ?_ | refine blk_alloc ?_ _)); exact BK313.out)) : gb328 ≠ gb313)); clear HO317; clear HO320; clear HO324; clear HO327; clear BK313; clear HB; have HO317 := n0_; have HO320 := n1_; have HO324 := n2_; have HO327 := n3_; have BK313 := n4_; have HB := n5_; have BK328 := n6_; have GW328 := n7_; have GE328 := n8_; have NB313_328 := n9_; have NB328_313 := n10_; clear n0_ n1_ n2_ n3_ n4_ n5_ n6_ n7_ n8_ n9_ n10_; clear hb hbox hg; obtain ⟨Ao68, co68, eo68⟩ := Kd.R_slice HO324.out; subst eo68; have hnb69 := NB328_313.out; have hnc69 := NB313_328.out; have hcz70_0 : w67.cell? ⟨gb328, 0, none⟩ = some (.slice none 0 0) := (blk_cell BK328.out 0).trans rfl; have hcz70_1 : w67.cell? ⟨gb328, 1, none⟩ = some (.slice none 0 0) := (blk_cell BK328.out 1).trans rfl; have hfz70_0 := blk_frozen BK328.out 0; have hfz70_1 := blk_frozen BK328.out 1; obtain ⟨Ao71, co71, eo71⟩ := Kd.R_slice HO327.out; subst eo71) | ((with_reducible refine gate_callee (f := 20) rfl ?_); refine goesL_ (some 18) rfl rfl Tryd.func20 (by kernel_rfl) rfl #[.agg #[.slice Ao68 t322.length co68, .slice Ao71 t325.length co71]] rfl (by (try simp only [List.map_toArray, List.map_cons, List.map_nil]); first | done | rfl | (simp only [List.length_drop, List.length_take]; rfl)) ?_; (with_reducible refine (impl_CountStandard.calls k _ _ t322 _ _ t325 t329 _ ?side1 ?side2 ?side3 ?side4 A10.out).mono ?_); (case side1 => refine (Kd.R_reads' (e := 3) (base := w.heap.size) (ok := fun k_ => ((some k_ ≠ (.slice Ao71 t325.length co71 : Value).ownBlock ∧ some k_ ≠ (.slice Ao62 t315.length co62 : Value).ownBlock) ∧ some k_ ≠ (.slice Ao63 t318.length co63 : Value).ownBlock)) (n := t322.length) (c := co68) ?_).2.2; exact (by (with_reducible repeat (first | apply Kd.R_alloc | apply Kd.R_drewN | apply Kd.R_drew)); exact (Kd.R_mono (Kd.R_far (p := ⟨gb328, 1, none⟩) (Kd.R_far (p := ⟨gb328, 0, none⟩) (Kd.R_types HO324.out BK328.out (by decide)) (fun _ hk => hk.2) (.slice Ao68 t322.length co68)) (fun _ hk => hk.2) (.slice Ao71 t325.length co71)) (fun _ h_ => h_.1)))); (case side2 => exact (Kd.R_reads' HO324.out).2.1); (case side3 => refine (Kd.R_reads' (e := 3) (base := w.heap.size) (ok := fun k_ => ((some k_ ≠ (.slice Ao68 t322.length co68 : Value).ownBlock ∧ some k_ ≠ (.slice Ao62 t315.length co62 : Value).ownBlock) ∧ some k_ ≠ (.slice Ao63 t318.length co63 : Value).ownBlock)) (n := t325.length) (c := co71) ?_).2.2; exact (by (with_reducible repeat (first | apply Kd.R_alloc | apply Kd.R_drewN | apply Kd.R_drew)); exact (Kd.R_mono (Kd.R_far (p := ⟨gb328, 1, none⟩) (Kd.R_far (p := ⟨gb328, 0, none⟩) (Kd.R_types HO327.out BK328.out (by decide)) (fun _ hk => hk.2) (.slice Ao68 t322.length co68)) (fun _ hk => hk.2) (.slice Ao71 t325.length co71)) (fun _ h_ => h_.1)))); (case side4 => exact (Kd.R_reads' HO327.out).2.1); rintro e w72 ⟨rfl, hb⟩; refine ⟨_, rfl, ?_⟩; have n0_ := Aside0.mk (Kd.R_below (by (with_reducible repeat (first | apply Kd.R_alloc | apply Kd.R_drewN | apply Kd.R_drew)); exact (Kd.R_mono (Kd.R_far (p := ⟨gb328, 1, none⟩) (Kd.R_far (p := ⟨gb328, 0, none⟩) (Kd.R_types HO317.out BK328.out (by decide)) (fun _ hk => hk.2) (.slice Ao68 t322.length co68)) (fun _ hk => hk.2) (.slice Ao71 t325.length co71)) (fun _ h_ => h_.1))) hb); have n1_ := Aside0.mk (Kd.R_below (by (with_reducible repeat (first | apply Kd.R_alloc | apply Kd.R_drewN | apply Kd.R_drew)); exact (Kd.R_mono (Kd.R_far (p := ⟨gb328, 1, none⟩) (Kd.R_far (p := ⟨gb328, 0, none⟩) (Kd.R_types HO320.out BK328.out (by decide)) (fun _ hk => hk.2) (.slice Ao68 t322.length co68)) (fun _ hk => hk.2) (.slice Ao71 t325.length co71)) (fun _ h_ => h_.1))) hb); have n2_ := Aside0.mk (Kd.R_below (by (with_reducible repeat (first | apply Kd.R_alloc | apply Kd.R_drewN | apply Kd.R_drew)); exact (Kd.R_mono (Kd.R_far (p := ⟨gb328, 1, none⟩) (Kd.R_far (p := ⟨gb328, 0, none⟩) (Kd.R_types HO324.out BK328.out (by decide)) (fun _ hk => hk.2) (.slice Ao68 t322.length co68)) (fun _ hk => hk.2) (.slice Ao71 t325.length co71)) (fun _ h_ => h_.1))) hb); have n3_ := Aside0.mk (Kd.R_below (by (with_reducible repeat (first | apply Kd.R_alloc | apply Kd.R_drewN | apply Kd.R_drew)); exact (Kd.R_mono (Kd.R_far (p := ⟨gb328, 1, none⟩) (Kd.R_far (p := ⟨gb328, 0, none⟩) (Kd.R_types HO327.out BK328.out (by decide)) (fun _ hk => hk.2) (.slice Ao68 t322.length co68)) (fun _ hk => hk.2) (.slice Ao71 t325.length co71)) (fun _ h_ => h_.1))) hb); have n4_ := Aside0.mk (blk_below (g := gb313) (o := .cells #[.slice A0_0 l0_0.length c0_0, .slice A0_1 l0_1.length c0_1] 35 (0, 0)) (by (with_reducible repeat (first | refine blk_drewN ?_ _ | refine blk_drew ?_ | refine blk_alloc ?_ _)); refine blk_far ?_ NB313_328.out _; (with_reducible repeat (first | refine blk_drewN ?_ _ | refine blk_drew ?_ | refine blk_alloc ?_ _)); refine blk_far ?_ NB313_328.out _; (with_reducible repeat (first | refine blk_drewN ?_ _ | refine blk_drew ?_ | refine blk_alloc ?_ _)); exact BK313.out) hb); have n5_ := Aside0.mk (blk_below (g := gb328) (o := .cells #[.slice Ao68 t322.length co68, .slice Ao71 t325.length co71] 38 (0, 0)) (by (with_reducible repeat (first | refine blk_drewN ?_ _ | refine blk_drew ?_ | refine blk_alloc ?_ _)); refine blk_put (cs := #[.slice Ao68 t322.length co68, .slice none 0 0]) ?_ 1 _ rfl; (with_reducible repeat (first | refine blk_drewN ?_ _ | refine blk_drew ?_ | refine blk_alloc ?_ _)); refine blk_put (cs := #[.slice none 0 0, .slice none 0 0]) ?_ 0 _ rfl; (with_reducible repeat (first | refine blk_drewN ?_ _ | refine blk_drew ?_ | refine blk_alloc ?_ _)); exact BK328.out) hb); have n6_ := Aside0.mk (below_step (by repeat (first | (with_reducible first | exact HB.out | apply below_alloc | apply pw_below_drewN | apply below_drew1 | refine below_set ?_ GE313.out | refine below_set ?_ GE328.out) | exact HB.out)) hb); clear HO317; clear HO320; clear HO324; clear HO327; clear BK313; clear BK328; clear HB; have HO317 := n0_; have HO320 := n1_; have HO324 := n2_; have HO327 := n3_; have BK313 := n4_; have BK328 := n5_; have HB := n6_; clear n0_ n1_ n2_ n3_ n4_ n5_ n6_; (try clear hb); (try clear hb2); (try clear hk); (try clear hi)))
      go_ret
      exact ⟨by first | rfl | (simp [errW_none, errW_some] <;> rfl) | (simp [*, errW_none, errW_some] <;> rfl), by repeat (first | (with_reducible first | exact HB.out | apply below_alloc | apply pw_below_drewN | apply below_drew1 | refine below_set ?_ GE313.out | refine below_set ?_ GE328.out) | exact HB.out)⟩
end Go.Proofs.YtppkfgcnmaifmaaDoor.Hb
namespace Go.Proofs.YtppkfgcnmaifmaaDoor.Hb
open Go.RowKit Go.Proofs.YtppkfgcnmaifmaaDoorW.PrintWords Go.Proofs.YtppkfgcnmaifmaaDoorW.PrintLast Go.Proofs.YtppkfgcnmaifmaaDoorW.PrintMore
attribute [local go_sem] max2_int min2_int max_two min_two max_three min_three max_four min_four
set_option linter.unusedVariables false
set_option linter.unusedSimpArgs false
open Pu
theorem w64 (n : Int) (h1 : -9223372036854775808 ≤ n) (h2 : n ≤ 9223372036854775807) : wrap64 n = n := by unfold wrap64; omega
theorem rd_mid (pre : List Int) (x : Int) (rest : List Int) : rd (pre ++ x :: rest) (pre.length : Int) = x := by simp [rd]
theorem rd_nat (l : List Int) (i : Nat) : rd l (i : Int) = l.getD i 0 := by simp [rd]
theorem rd_before (pre rest : List Int) (h : 0 < pre.length) : rd (pre ++ rest) ((pre.length : Int) - 1) = pre.getD (pre.length - 1) 0 := by
  rw [show ((pre.length : Int) - 1) = ((pre.length - 1 : Nat) : Int) by omega, rd_nat, getD_before pre rest 0 h]
theorem len_snoc (pre : List Int) (x : Int) : ((pre ++ [x]).length : Int) = (pre.length : Int) + 1 := by simp
theorem within_eq (a lo hi : Int) : impl_within.f a lo hi = some (decide (lo ≤ a ∧ a ≤ hi)) := by
  unfold impl_within.f
  by_cases h : lo ≤ a <;> simp [h]
theorem in_eq (a lo hi : Int) : spec_l1In.f a lo hi = some (decide (lo ≤ a ∧ a ≤ hi)) := by
  unfold spec_l1In.f
  by_cases h : lo ≤ a <;> simp [h]
theorem sum_l0 (l : List Int) (hl : l.length ≤ 10000000) : ∀ (rest pre : List Int) (acc : Int), l = pre ++ rest → (∀ x ∈ rest, 0 ≤ x ∧ x ≤ 9) → 0 ≤ acc → acc ≤ 9 * pre.length → Evs (fun k => impl_sum.l0 k acc l (l.length : Int) (pre.length : Int)) (acc + rest.sum)
  | [], pre, acc, e, _, _, _ => by
    have h : ¬ (pre.length : Int) < (l.length : Int) := by rw [e]; simp
    refine Evs.succ ?_
    simp only [impl_sum.l0, if_neg h]
    exact (Evs.pure _).same (by simp)
  | x :: rest, pre, acc, e, hx, h0, h1 => by
    have hlen : pre.length < l.length := by rw [e]; simp
    have h2 : (pre.length : Int) < (l.length : Int) := by omega
    have h3 : (0 : Int) ≤ (pre.length : Int) := by omega
    have hr : rd l (pre.length : Int) = x := by rw [e, rd_mid]
    have hxx := hx x (List.mem_cons_self ..)
    have e1 : wrap64 (acc + x) = acc + x := w64 _ (by omega) (by omega)
    have e2 : wrap64 ((pre.length : Int) + 1) = ((pre ++ [x]).length : Int) := by rw [len_snoc]; exact w64 _ (by omega) (by omega)
    refine Evs.succ ?_
    simp only [impl_sum.l0, if_pos h2, if_pos h3, hr, e1, e2]
    exact (sum_l0 l hl rest (pre ++ [x]) (acc + x) (by rw [e]; simp) (fun y hy => hx y (List.mem_cons_of_mem _ hy)) (by omega) (by rw [len_snoc]; omega)).same (by simp; omega)
theorem sum_ev (l : List Int) (hl : l.length ≤ 10000000) (h : ∀ x ∈ l, 0 ≤ x ∧ x ≤ 9) : Evs (fun k => impl_sum.f k l) l.sum := by
  unfold impl_sum.f
  exact (sum_l0 l hl l [] 0 rfl h (Int.le_refl _) (by simp)).same (by simp)
theorem size_l0 (l : List Int) (hl : l.length ≤ 10000000) : ∀ (rest pre : List Int) (acc : Int), l = pre ++ rest → (∀ x ∈ rest, 0 ≤ x ∧ x ≤ 9) → 0 ≤ acc → acc ≤ 9 * pre.length → Evs (fun k => spec_l2Size.l0 k l acc (pre.length : Int)) (acc + rest.sum)
  | [], pre, acc, e, _, _, _ => by
    have h : ¬ (pre.length : Int) < (l.length : Int) := by rw [e]; simp
    refine Evs.succ ?_
    simp only [spec_l2Size.l0, if_neg h]
    exact (Evs.pure _).same (by simp)
  | x :: rest, pre, acc, e, hx, h0, h1 => by
    have hlen : pre.length < l.length := by rw [e]; simp
    have h2 : (pre.length : Int) < (l.length : Int) := by omega
    have h3 : (0 : Int) ≤ (pre.length : Int) := by omega
    have hr : rd l (pre.length : Int) = x := by rw [e, rd_mid]
    have hxx := hx x (List.mem_cons_self ..)
    have e1 : wrap64 (acc + x) = acc + x := w64 _ (by omega) (by omega)
    have e2 : wrap64 ((pre.length : Int) + 1) = ((pre ++ [x]).length : Int) := by rw [len_snoc]; exact w64 _ (by omega) (by omega)
    refine Evs.succ ?_
    simp only [spec_l2Size.l0, if_pos h2, if_pos h3, hr, e1, e2]
    exact (size_l0 l hl rest (pre ++ [x]) (acc + x) (by rw [e]; simp) (fun y hy => hx y (List.mem_cons_of_mem _ hy)) (by omega) (by rw [len_snoc]; omega)).same (by simp; omega)
theorem size_ev (l : List Int) (hl : l.length ≤ 10000000) (h : ∀ x ∈ l, 0 ≤ x ∧ x ≤ 9) : Evs (fun k => spec_l2Size.f k l) l.sum := by
  unfold spec_l2Size.f
  exact (size_l0 l hl l [] 0 rfl h (Int.le_refl _) (by simp)).same (by simp)
theorem ipart_j1 (l : List Int) (all x len i : Int) (b : Bool) (R : Bool) (ha : 0 ≤ all ∧ all ≤ 9) (hx : b = false → 1 ≤ x ∧ x ≤ 9) (hR : b = false → all + x ≤ 9 → Evs (fun k => impl_IsPartition.l0 k l (all + x) l len (wrap64 (i + 1))) R) :
    Evs (fun k => impl_IsPartition.j1 k l all x l len i b) (if b = true then false else if all + x > 9 then false else R) := by
  refine Evs.succ ?_
  cases b with
  | true => simp only [impl_IsPartition.j1, if_true]; exact Evs.pure _
  | false =>
    have hx := hx rfl
    have e : wrap64 (all + x) = all + x := w64 _ (by omega) (by omega)
    simp only [impl_IsPartition.j1, e, Bool.false_eq_true, if_false]
    by_cases h : all + x > 9
    · simp only [if_pos h]; exact Evs.pure _
    · simp only [if_neg h]; exact hR rfl (by omega)
theorem ipart_l0 (l : List Int) (hl : l.length ≤ 10000000) : ∀ (rest pre : List Int) (all : Int), l = pre ++ rest → 0 ≤ all ∧ all ≤ 9 → Evs (fun k => impl_IsPartition.l0 k l all l (l.length : Int) (pre.length : Int)) (chk pre all rest)
  | [], pre, all, e, _ => by
    have h : ¬ (pre.length : Int) < (l.length : Int) := by rw [e]; simp
    refine Evs.succ ?_
    simp only [impl_IsPartition.l0, if_neg h]
    exact Evs.pure _
  | x :: rest, pre, all, e, ha => by
    have hlen : pre.length < l.length := by rw [e]; simp
    have h2 : (pre.length : Int) < (l.length : Int) := by omega
    have h3 : (0 : Int) ≤ (pre.length : Int) := by omega
    have hr : rd l (pre.length : Int) = x := by rw [e, rd_mid]
    have e2 : wrap64 ((pre.length : Int) + 1) = ((pre ++ [x]).length : Int) := by rw [len_snoc]; exact w64 _ (by omega) (by omega)
    have e3 : wrap64 ((pre.length : Int) - 1) = (pre.length : Int) - 1 := w64 _ (by omega) (by omega)
    have ih : 1 ≤ x → all + x ≤ 9 → Evs (fun k => impl_IsPartition.l0 k l (all + x) l (l.length : Int) (wrap64 ((pre.length : Int) + 1))) (chk (pre ++ [x]) (all + x) rest) := fun h1 h2 => by
      rw [e2]
      exact ipart_l0 l hl rest (pre ++ [x]) (all + x) (by rw [e]; simp) ⟨by omega, h2⟩
    refine Evs.succ ?_
    simp only [impl_IsPartition.l0, if_pos h2, if_pos h3, hr, within_eq, Option.bind_some]
    by_cases c1 : 1 ≤ x ∧ x ≤ 9
    · simp only [decide_eq_true c1, if_true]
      by_cases c0 : (pre.length : Int) > 0
      · have h4 : (0 : Int) ≤ (pre.length : Int) - 1 := by omega
        have h5 : (pre.length : Int) - 1 < (l.length : Int) := by omega
        have hb : rd l ((pre.length : Int) - 1) = pre.getD (pre.length - 1) 0 := by rw [e, rd_before pre _ (by omega)]
        simp only [if_pos c0, e3, if_pos h4, if_pos h5, hb]
        refine (ipart_j1 l all x (l.length : Int) (pre.length : Int) _ (chk (pre ++ [x]) (all + x) rest) ha (fun _ => c1) (fun _ h => ih c1.1 h)).same ?_
        rw [chk_cons]
        by_cases c2 : x ≤ pre.getD (pre.length - 1) 0
        · rw [if_neg (by rw [decide_eq_true_eq]; omega)]
          by_cases c3 : all + x > 9
          · rw [if_pos c3, if_neg (by omega)]
          · rw [if_neg c3, if_pos ⟨c1, fun _ => c2, by omega⟩]
        · rw [if_pos (by rw [decide_eq_true_eq]; omega), if_neg (fun h => c2 (h.2.1 (by omega)))]
      · simp only [if_neg c0]
        refine (ipart_j1 l all x (l.length : Int) (pre.length : Int) false (chk (pre ++ [x]) (all + x) rest) ha (fun _ => c1) (fun _ h => ih c1.1 h)).same ?_
        rw [chk_cons]
        simp only [Bool.false_eq_true, if_false]
        by_cases c3 : all + x > 9
        · rw [if_pos c3, if_neg (by omega)]
        · rw [if_neg c3, if_pos ⟨c1, fun h => absurd h (by omega), by omega⟩]
    · simp only [decide_eq_false c1, Bool.false_eq_true, if_false]
      refine (ipart_j1 l all x (l.length : Int) (pre.length : Int) true true ha (fun h => by cases h) (fun h => by cases h)).same ?_
      rw [chk_cons]
      rw [if_pos rfl, if_neg (fun h => c1 h.1)]
theorem ipart_ev (l : List Int) (hl : l.length ≤ 10000000) : Evs (fun k => impl_IsPartition.f k l) (isPt l) := by
  unfold impl_IsPartition.f isPt
  exact ipart_l0 l hl l [] 0 rfl ⟨by omega, by omega⟩
theorem spart_j1 (l : List Int) (all x i : Int) (b : Bool) (R : Bool) (h0 : 0 ≤ i) (h1 : i < (l.length : Int)) (hr : rd l i = x) (ha : 0 ≤ all ∧ all ≤ 9) (hx : b = false → 1 ≤ x ∧ x ≤ 9) (hR : b = false → all + x ≤ 9 → Evs (fun k => spec_IsPartition.l0 k l (all + x) (wrap64 (i + 1))) R) :
    Evs (fun k => spec_IsPartition.j1 k l all i b) (if b = true then false else if all + x > 9 then false else R) := by
  refine Evs.succ ?_
  cases b with
  | true => simp only [spec_IsPartition.j1, if_true]; exact Evs.pure _
  | false =>
    have hx := hx rfl
    have e : wrap64 (all + x) = all + x := w64 _ (by omega) (by omega)
    simp only [spec_IsPartition.j1, if_pos h0, if_pos h1, hr, e, Bool.false_eq_true, if_false]
    by_cases h : all + x > 9
    · simp only [if_pos h]; exact Evs.pure _
    · simp only [if_neg h]; exact hR rfl (by omega)
theorem spart_l0 (l : List Int) (hl : l.length ≤ 10000000) : ∀ (rest pre : List Int) (all : Int), l = pre ++ rest → 0 ≤ all ∧ all ≤ 9 → Evs (fun k => spec_IsPartition.l0 k l all (pre.length : Int)) (chk pre all rest)
  | [], pre, all, e, _ => by
    have h : ¬ (pre.length : Int) < (l.length : Int) := by rw [e]; simp
    refine Evs.succ ?_
    simp only [spec_IsPartition.l0, if_neg h]
    exact Evs.pure _
  | x :: rest, pre, all, e, ha => by
    have hlen : pre.length < l.length := by rw [e]; simp
    have h2 : (pre.length : Int) < (l.length : Int) := by omega
    have h3 : (0 : Int) ≤ (pre.length : Int) := by omega
    have hr : rd l (pre.length : Int) = x := by rw [e, rd_mid]
    have e2 : wrap64 ((pre.length : Int) + 1) = ((pre ++ [x]).length : Int) := by rw [len_snoc]; exact w64 _ (by omega) (by omega)
    have e3 : wrap64 ((pre.length : Int) - 1) = (pre.length : Int) - 1 := w64 _ (by omega) (by omega)
    have ih : 1 ≤ x → all + x ≤ 9 → Evs (fun k => spec_IsPartition.l0 k l (all + x) (wrap64 ((pre.length : Int) + 1))) (chk (pre ++ [x]) (all + x) rest) := fun h1 h2 => by
      rw [e2]
      exact spart_l0 l hl rest (pre ++ [x]) (all + x) (by rw [e]; simp) ⟨by omega, h2⟩
    refine Evs.succ ?_
    simp only [spec_IsPartition.l0, if_pos h2, if_pos h3, hr, in_eq, Option.bind_some]
    by_cases c1 : 1 ≤ x ∧ x ≤ 9
    · simp only [decide_eq_true c1, if_true]
      by_cases c0 : (pre.length : Int) > 0
      · have h4 : (0 : Int) ≤ (pre.length : Int) - 1 := by omega
        have h5 : (pre.length : Int) - 1 < (l.length : Int) := by omega
        have hb : rd l ((pre.length : Int) - 1) = pre.getD (pre.length - 1) 0 := by rw [e, rd_before pre _ (by omega)]
        simp only [if_pos c0, e3, if_pos h4, if_pos h5, hb]
        refine (spart_j1 l all x (pre.length : Int) _ (chk (pre ++ [x]) (all + x) rest) h3 h2 hr ha (fun _ => c1) (fun _ h => ih c1.1 h)).same ?_
        rw [chk_cons]
        by_cases c2 : x ≤ pre.getD (pre.length - 1) 0
        · rw [if_neg (by rw [decide_eq_true_eq]; omega)]
          by_cases c3 : all + x > 9
          · rw [if_pos c3, if_neg (by omega)]
          · rw [if_neg c3, if_pos ⟨c1, fun _ => c2, by omega⟩]
        · rw [if_pos (by rw [decide_eq_true_eq]; omega), if_neg (fun h => c2 (h.2.1 (by omega)))]
      · simp only [if_neg c0]
        refine (spart_j1 l all x (pre.length : Int) false (chk (pre ++ [x]) (all + x) rest) h3 h2 hr ha (fun _ => c1) (fun _ h => ih c1.1 h)).same ?_
        rw [chk_cons]
        simp only [Bool.false_eq_true, if_false]
        by_cases c3 : all + x > 9
        · rw [if_pos c3, if_neg (by omega)]
        · rw [if_neg c3, if_pos ⟨c1, fun h => absurd h (by omega), by omega⟩]
    · simp only [decide_eq_false c1, Bool.false_eq_true, if_false]
      refine (spart_j1 l all x (pre.length : Int) true true h3 h2 hr ha (fun h => by cases h) (fun h => by cases h)).same ?_
      rw [chk_cons]
      rw [if_pos rfl, if_neg (fun h => c1 h.1)]
theorem spart_ev (l : List Int) (hl : l.length ≤ 10000000) : Evs (fun k => spec_IsPartition.f k l) (isPt l) := by
  unfold spec_IsPartition.f isPt
  exact spart_l0 l hl l [] 0 rfl ⟨by omega, by omega⟩
end Go.Proofs.YtppkfgcnmaifmaaDoor.Hb
namespace Go.Proofs.YtppkfgcnmaifmaaDoor.Hb
open Go.RowKit Go.Proofs.YtppkfgcnmaifmaaDoorW.PrintWords Go.Proofs.YtppkfgcnmaifmaaDoorW.PrintLast Go.Proofs.YtppkfgcnmaifmaaDoorW.PrintMore
attribute [local go_sem] max2_int min2_int max_two min_two max_three min_three max_four min_four
set_option linter.unusedVariables false
set_option linter.unusedSimpArgs false
open Pu
theorem at_nat (l : List Int) (i : Nat) (hl : l.length ≤ 4000000) : impl_at.f l (i : Int) = some (l.getD i 0) := by
  rw [impl_grow.at_eq l _ hl, Gr.atL_nat]
theorem iins_l0 (p q : List Int) (hp : p.length ≤ 4000000) (hq : q.length ≤ 4000000) : ∀ (rest pre : List Int), q = pre ++ rest → Evs (fun k => impl_IsInside.l0 k p q (q.length : Int) (pre.length : Int)) (insR p pre.length rest)
  | [], pre, e => by
    have h : ¬ (pre.length : Int) < (q.length : Int) := by rw [e]; simp
    refine Evs.succ ?_
    simp only [impl_IsInside.l0, if_neg h]
    exact Evs.pure _
  | x :: rest, pre, e => by
    have hlen : pre.length < q.length := by rw [e]; simp
    have h2 : (pre.length : Int) < (q.length : Int) := by omega
    have h3 : (0 : Int) ≤ (pre.length : Int) := by omega
    have hr : rd q (pre.length : Int) = x := by rw [e, rd_mid]
    have e2 : wrap64 ((pre.length : Int) + 1) = ((pre ++ [x]).length : Int) := by rw [len_snoc]; exact w64 _ (by omega) (by omega)
    refine Evs.succ ?_
    simp only [impl_IsInside.l0, if_pos h2, if_pos h3, hr, at_nat p _ hp, Option.bind_some, e2]
    unfold insR
    by_cases c : x > p.getD pre.length 0
    · simp only [if_pos c]; exact Evs.pure _
    · simp only [if_neg c]
      have := iins_l0 p q hp hq rest (pre ++ [x]) (by rw [e]; simp)
      rw [List.length_append, List.length_singleton] at this
      simpa using this
theorem iins_j0 (p q : List Int) (hp : p.length ≤ 4000000) (hq : q.length ≤ 4000000) (b : Bool) : Evs (fun k => impl_IsInside.j0 k q p b) (!b && insR p 0 q) := by
  refine Evs.succ ?_
  cases b with
  | true => simp only [impl_IsInside.j0, if_true]; exact Evs.pure _
  | false =>
    simp only [impl_IsInside.j0, Bool.false_eq_true, if_false]
    exact iins_l0 p q hp hq q [] rfl
theorem iins_ev (q p : List Int) (hq : q.length ≤ 4000000) (hp : p.length ≤ 4000000) : Evs (fun k => impl_IsInside.f k q p) (inside q p) := by
  unfold impl_IsInside.f
  rw [inside_eq]
  refine (ipart_ev q (by omega)).bind ?_
  cases hA : isPt q with
  | false =>
    simp only [Bool.false_eq_true, if_false]
    exact (iins_j0 p q hp hq true).same (by simp)
  | true =>
    simp only [if_true]
    refine (ipart_ev p (by omega)).bind ?_
    exact (iins_j0 p q hp hq _).same (by cases isPt p <;> simp)
theorem ishape_ev (o i : List Int) (ho : o.length ≤ 4000000) (hi : i.length ≤ 4000000) : Evs (fun k => impl_IsShape.f k o i) (inside i o) := by
  unfold impl_IsShape.f
  exact (iins_ev i o hi ho).bind (Evs.pure _)
theorem sins_l0 (p q : List Int) (hl : q.length ≤ p.length) (hp : p.length ≤ 4000000) : ∀ (rest pre : List Int), q = pre ++ rest → Evs (fun k => spec_IsInside.l0 k q p (pre.length : Int)) (insR p pre.length rest)
  | [], pre, e => by
    have h : ¬ (pre.length : Int) < (q.length : Int) := by rw [e]; simp
    refine Evs.succ ?_
    simp only [spec_IsInside.l0, if_neg h]
    exact Evs.pure _
  | x :: rest, pre, e => by
    have hlen : pre.length < q.length := by rw [e]; simp
    have h2 : (pre.length : Int) < (q.length : Int) := by omega
    have h4 : (pre.length : Int) < (p.length : Int) := by omega
    have h3 : (0 : Int) ≤ (pre.length : Int) := by omega
    have hr : rd q (pre.length : Int) = x := by rw [e, rd_mid]
    have e2 : wrap64 ((pre.length : Int) + 1) = ((pre ++ [x]).length : Int) := by rw [len_snoc]; exact w64 _ (by omega) (by omega)
    refine Evs.succ ?_
    simp only [spec_IsInside.l0, if_pos h2, if_pos h3, if_pos h4, hr, rd_nat p, e2]
    unfold insR
    by_cases c : x > p.getD pre.length 0
    · simp only [if_pos c]; exact Evs.pure _
    · simp only [if_neg c]
      have := sins_l0 p q hl hp rest (pre ++ [x]) (by rw [e]; simp)
      rw [List.length_append, List.length_singleton] at this
      simpa using this
theorem sins_j0 (p q : List Int) (hp : p.length ≤ 4000000) (b : Bool) (hb : b = false → q.length ≤ p.length) : Evs (fun k => spec_IsInside.j0 k q p b) (!b && insR p 0 q) := by
  refine Evs.succ ?_
  cases b with
  | true => simp only [spec_IsInside.j0, if_true]; exact Evs.pure _
  | false =>
    simp only [spec_IsInside.j0, Bool.false_eq_true, if_false]
    exact sins_l0 p q (hb rfl) hp q [] rfl
theorem sins_ev (q p : List Int) (hq : q.length ≤ 4000000) (hp : p.length ≤ 4000000) : Evs (fun k => spec_IsInside.f k q p) (inside q p) := by
  unfold spec_IsInside.f
  refine (spart_ev q (by omega)).bind ?_
  cases hA : isPt q with
  | false =>
    simp only [Bool.false_eq_true, if_false]
    exact (sins_j0 p q hp true (fun h => by cases h)).same (by rw [inside_eq, hA]; rfl)
  | true =>
    simp only [if_true]
    refine (spart_ev p (by omega)).bind ?_
    cases hB : isPt p with
    | false =>
      simp only [Bool.false_eq_true, if_false]
      exact (sins_j0 p q hp true (fun h => by cases h)).same (by rw [inside_eq, hA, hB]; rfl)
    | true =>
      simp only [if_true]
      by_cases c : q.length ≤ p.length
      · have h : ¬ (q.length : Int) > (p.length : Int) := by omega
        exact (sins_j0 p q hp _ (fun _ => c)).same (by rw [inside_eq, hA, hB, decide_eq_false h]; rfl)
      · have h : (q.length : Int) > (p.length : Int) := by omega
        refine (sins_j0 p q hp _ (fun h2 => absurd (decide_eq_true h) (by rw [h2]; simp))).same ?_
        rw [decide_eq_true h]
        simp only [Bool.not_true, Bool.false_and]
        symm
        rw [← Bool.not_eq_true, inside_iff]
        rintro ⟨h1, h2, h3⟩
        exact c (inside_len h1 h3)
theorem sshape_ev (o i : List Int) (ho : o.length ≤ 4000000) (hi : i.length ≤ 4000000) : Evs (fun k => spec_IsShape.f k o i) (inside i o) := by
  unfold spec_IsShape.f
  exact (sins_ev i o hi ho).bind (Evs.pure _)
theorem nn_of {p : List Int} (h : Part p) : ∀ x ∈ p, 0 ≤ x ∧ x ≤ 9 := fun x hx => by have := h.le x hx; omega
theorem count_ev (o i : List Int) (ho : o.length ≤ 4000000) (hi : i.length ≤ 4000000) : Evs (fun k => impl_CellCount.f k o i) (if inside i o = true then o.sum - i.sum else -1) := by
  unfold impl_CellCount.f
  refine (ishape_ev o i ho hi).bind ?_
  cases h : inside i o with
  | false => simp only [Bool.false_eq_true, if_false]; exact Evs.pure _
  | true =>
    obtain ⟨h1, h2, h3⟩ := (inside_iff i o).1 h
    simp only [if_true]
    refine (sum_ev o (by omega) (nn_of h2)).bind ((sum_ev i (by omega) (nn_of h1)).bind ?_)
    have a1 := h1.sum
    have a2 := h2.sum
    have a3 := sum_ge i h1.pos
    have a4 := sum_ge o h2.pos
    exact (Evs.pure _).same (w64 _ (by omega) (by omega))
theorem addbox_ev (p : List Int) (hp : Part p) (r : Nat) (hr : r ≤ p.length) : Evs (fun k => spec_AddBox.f k p (r : Int)) (if isPt (box p r) = true then (box p r, true) else ([], false)) := by
  have hl := hp.len
  have h1 : ¬ (r : Int) < 0 := by omega
  have h2 : ¬ (r : Int) > (p.length : Int) := by omega
  have h0 : (0 : Int) ≤ (r : Int) := by omega
  have h4 : (([] : List Int).length + p.length < 17592186044416) := by simp; omega
  have h5 : (([] : List Int) ++ p).length < 17592186044416 := by simp; omega
  have hv := (getD_nn hp r)
  have e1 : wrap64 (p.getD r 0 + 1) = p.getD r 0 + 1 := w64 _ (by omega) (by omega)
  unfold spec_AddBox.f
  refine (spart_ev p (by omega)).bind ?_
  rw [(isPt_iff p).2 hp]
  simp only [if_true, if_neg h1, decide_eq_false h2]
  refine Evs.succ ?_
  simp only [spec_AddBox.j0, Bool.false_eq_true, if_false, Option.bind_some, if_pos h4, List.nil_append]
  by_cases c : (r : Int) = (p.length : Int)
  · have h6 : p.length < 17592186044416 := by omega
    have h7 : (r : Int) < ((p ++ [0]).length : Int) := by simp; omega
    have h8 : (p ++ [0]).set (r : Int).toNat (wrap64 (rd (p ++ [0]) (r : Int) + 1)) = box p r := by
      have : r = p.length := by omega
      subst this
      unfold box
      rw [if_pos rfl, show rd (p ++ [0]) (p.length : Int) = 0 from rd_mid p 0 [], w64 _ (by omega) (by omega)]
      simp
    simp only [if_pos c, if_pos h6, Option.bind_some, if_pos h0, if_pos h7, h8]
    refine (spart_ev _ (by rw [box_length]; split <;> omega)).bind ?_
    split <;> exact Evs.pure _
  · have h7 : (r : Int) < (p.length : Int) := by omega
    have h8 : p.set (r : Int).toNat (wrap64 (rd p (r : Int) + 1)) = box p r := by
      unfold box
      rw [if_neg (by omega), rd_nat, e1]
      simp
    simp only [if_neg c, if_pos h0, if_pos h7, h8, Option.bind_some]
    refine (spart_ev _ (by rw [box_length]; split <;> omega)).bind ?_
    split <;> exact Evs.pure _
end Go.Proofs.YtppkfgcnmaifmaaDoor.Hb
namespace Go.Proofs.YtppkfgcnmaifmaaDoor.Hb
open Go.RowKit Go.Proofs.YtppkfgcnmaifmaaDoorW.PrintWords Go.Proofs.YtppkfgcnmaifmaaDoorW.PrintLast Go.Proofs.YtppkfgcnmaifmaaDoorW.PrintMore
attribute [local go_sem] max2_int min2_int max_two min_two max_three min_three max_four min_four
set_option linter.unusedVariables false
set_option linter.unusedSimpArgs false
open Pu
theorem rdL_nat (l : List (List Int)) (i : Nat) : rd_L3 l (i : Int) = l.getD i [] := by simp [rd_L3]
structure Full (outer inner : List Int) (rows : List (List Int)) : Prop where
  k : ∃ k : Int, k ≤ 10 ∧ Gr.Good outer inner rows k
  full : ∀ i : Nat, i < outer.length → Gr.col inner rows i = outer.getD i 0
  inn : inside inner outer = true
theorem Full.len {outer inner : List Int} {rows : List (List Int)} (h : Full outer inner rows) : rows.length = outer.length ∧ outer.length ≤ 9 ∧ inner.length ≤ outer.length := by
  obtain ⟨k, _, hg⟩ := h.k
  obtain ⟨h1, h2, h3⟩ := (inside_iff _ _).1 h.inn
  exact ⟨hg.len, h2.len, hg.ilen⟩
theorem Full.part {outer inner : List Int} {rows : List (List Int)} (h : Full outer inner rows) : Part inner ∧ Part outer := by
  obtain ⟨h1, h2, h3⟩ := (inside_iff _ _).1 h.inn
  exact ⟨h1, h2⟩
theorem Full.row {outer inner : List Int} {rows : List (List Int)} (h : Full outer inner rows) (i : Nat) : (rows.getD i []).length ≤ 9 := by
  obtain ⟨hl, h9, _⟩ := h.len
  by_cases hi : i < outer.length
  · have h1 := h.full i hi
    have h2 := (getD_nn h.part.1 i).1
    have h3 := (getD_nn h.part.2 i).2
    unfold Gr.col at h1
    rw [Gr.atL_nat] at h1
    omega
  · simp [List.getD, show rows.length ≤ i by omega]
theorem shape_l0 {outer inner : List Int} {rows : List (List Int)} (h : Full outer inner rows) : ∀ d i : Nat, i + d = rows.length →
    Evs (fun f => impl_ShapeOf.l0 f rows (rows.length : Int) (i : Int) inner rows ((List.range i).map (Gr.col inner rows)) inner) (outer, inner, true)
  | 0, i, e => by
    obtain ⟨hl, h9, hil⟩ := h.len
    have h1 : ¬ (i : Int) < (rows.length : Int) := by omega
    have hc : (List.range i).map (Gr.col inner rows) = outer := by
      apply List.ext_getElem
      · simp; omega
      · intro j h2 h3
        rw [List.getElem_map, List.getElem_range, h.full j h3]
        simp [List.getD, h3]
    refine Evs.succ ?_
    simp only [impl_ShapeOf.l0, if_neg h1, hc]
    refine (ishape_ev outer inner (by omega) (by omega)).bind ?_
    rw [h.inn]
    simp only [if_true]
    exact Evs.pure _
  | d + 1, i, e => by
    obtain ⟨hl, h9, hil⟩ := h.len
    have h1 : (i : Int) < (rows.length : Int) := by omega
    have h0 : (0 : Int) ≤ (i : Int) := by omega
    have h2 : ((List.range i).map (Gr.col inner rows)).length < 17592186044416 := by simp; omega
    have h3 := getD_nn h.part.1 i
    have h4 := h.row i
    have e1 : wrap64 (inner.getD i 0 + ((rows.getD i []).length : Int)) = Gr.col inner rows i := by
      rw [w64 _ (by omega) (by omega)]
      unfold Gr.col
      rw [Gr.atL_nat]
    have e2 : wrap64 ((i : Int) + 1) = ((i + 1 : Nat) : Int) := by rw [w64 _ (by omega) (by omega)]; omega
    have e3 : (List.range i).map (Gr.col inner rows) ++ [Gr.col inner rows i] = (List.range (i + 1)).map (Gr.col inner rows) := by rw [List.range_succ]; simp
    refine Evs.succ ?_
    simp only [impl_ShapeOf.l0, if_pos h1, if_pos h0, at_nat inner i (by omega), Option.bind_some, if_pos h2, rdL_nat, e1, e2, e3]
    exact shape_l0 h d (i + 1) (by omega)
theorem shape_ev {outer inner : List Int} {rows : List (List Int)} (h : Full outer inner rows) : Evs (fun f => impl_ShapeOf.f f inner rows) (outer, inner, true) := by
  obtain ⟨hl, h9, hil⟩ := h.len
  unfold impl_ShapeOf.f
  refine (ipart_ev inner (by omega)).bind ?_
  rw [(isPt_iff _).2 h.part.1]
  have h1 : ¬ (inner.length : Int) > (rows.length : Int) := by omega
  simp only [if_true, decide_eq_false h1]
  refine Evs.succ ?_
  have h2 : slices_Clone_int_int.f inner = some inner := by unfold slices_Clone_int_int.f; rw [if_pos (by omega)]
  simp only [impl_ShapeOf.j0, Bool.false_eq_true, if_false, h2, Option.bind_some]
  exact shape_l0 h rows.length 0 (by omega)
theorem tab_l1 {outer inner : List Int} {rows : List (List Int)} (h : Full outer inner rows) (i : Nat) (hi : i < rows.length) (hnext : Evs (fun f => impl_IsTableau.l0 f rows (rows.length : Int) ((i + 1 : Nat) : Int) inner rows) true) : ∀ d j : Nat, j + d = (rows.getD i []).length →
    Evs (fun f => impl_IsTableau.l1 f (i : Int) (rows.getD i []) rows (rows.length : Int) (i : Int) (rows.getD i []) ((rows.getD i []).length : Int) (j : Int) inner rows) true
  | 0, j, e => by
    obtain ⟨hl, h9, hil⟩ := h.len
    have h1 : ¬ (j : Int) < ((rows.getD i []).length : Int) := by omega
    have e2 : wrap64 ((i : Int) + 1) = ((i + 1 : Nat) : Int) := by rw [w64 _ (by omega) (by omega)]; omega
    refine Evs.succ ?_
    simp only [impl_IsTableau.l1, if_neg h1, e2]
    exact hnext
  | d + 1, j, e => by
    obtain ⟨hl, h9, hil⟩ := h.len
    obtain ⟨k, hk, hg⟩ := h.k
    have hr9 := h.row i
    have hrs : ∀ r ∈ rows, r.length ≤ 4000000 := fun r hr => by
      obtain ⟨n, hn, rfl⟩ := List.getElem_of_mem hr
      have := h.row n
      rw [List.getD_eq_getElem?_getD, List.getElem?_eq_getElem hn, Option.getD_some] at this
      omega
    have h1 : (j : Int) < ((rows.getD i []).length : Int) := by omega
    have h0 : (0 : Int) ≤ (j : Int) := by omega
    have e2 : wrap64 ((j : Int) + 1) = ((j + 1 : Nat) : Int) := by rw [w64 _ (by omega) (by omega)]; omega
    have hx := hg.ent i _ (Gr.getD_mem (rows.getD i []) j 0 (by omega))
    have hw : (1 : Int) ≤ (rows.getD i []).getD j 0 ∧ (rows.getD i []).getD j 0 ≤ 9 := by omega
    have hi3 := getD_nn h.part.1 i
    have rest := tab_l1 h i hi hnext d (j + 1) (by omega)
    have hent : ∀ f : Nat, 0 < i → (impl_at.f inner (i : Int)).bind (fun t => (impl_Tableau_entry.f inner rows (wrap64 ((i : Int) - 1)) (wrap64 (t + (j : Int)))).bind fun t2 => if (rows.getD i []).getD j 0 ≤ t2 then some false else impl_IsTableau.l1 f (i : Int) (rows.getD i []) rows (rows.length : Int) (i : Int) (rows.getD i []) ((rows.getD i []).length : Int) ((j + 1 : Nat) : Int) inner rows) = impl_IsTableau.l1 f (i : Int) (rows.getD i []) rows (rows.length : Int) (i : Int) (rows.getD i []) ((rows.getD i []).length : Int) ((j + 1 : Nat) : Int) inner rows := by
      intro f h0i
      rw [at_nat inner i (by omega), Option.bind_some, w64 _ (by omega) (by omega), w64 _ (by omega) (by omega), impl_grow.entry_eq inner rows i _ (by omega) (by omega) (by omega) hrs (nn_of h.part.1) (by omega), Option.bind_some]
      have hs := hg.str i h0i j (by omega)
      rw [if_neg (by omega)]
    refine Evs.succ ?_
    simp only [impl_IsTableau.l1, if_pos h1, if_pos h0, rd_nat, within_eq, Option.bind_some, decide_eq_true hw, if_true, e2]
    by_cases hj : (j : Int) > 0
    · have e3 : wrap64 ((j : Int) - 1) = ((j - 1 : Nat) : Int) := by rw [w64 _ (by omega) (by omega)]; omega
      have h4 : (0 : Int) ≤ ((j - 1 : Nat) : Int) := by omega
      have h5 : ((j - 1 : Nat) : Int) < ((rows.getD i []).length : Int) := by omega
      have hwk : ¬ (rows.getD i []).getD j 0 < (rows.getD i []).getD (j - 1) 0 := by
        have hp := List.pairwise_iff_getElem.1 (hg.wk i) (j - 1) j (by omega) (by omega) (by omega)
        rw [List.getD_eq_getElem?_getD, List.getElem?_eq_getElem (by omega), List.getD_eq_getElem?_getD (i := j - 1), List.getElem?_eq_getElem (by omega), Option.getD_some, Option.getD_some]
        omega
      simp only [if_pos hj, e3, if_pos h4, if_pos h5, rd_nat, if_neg hwk]
      by_cases hi0 : (i : Int) > 0
      · simp only [if_pos hi0, hent _ (by omega)]
        exact rest
      · simp only [if_neg hi0]
        exact rest
    · simp only [if_neg hj]
      by_cases hi0 : (i : Int) > 0
      · simp only [if_pos hi0, hent _ (by omega)]
        exact rest
      · simp only [if_neg hi0]
        exact rest
theorem tab_l0 {outer inner : List Int} {rows : List (List Int)} (h : Full outer inner rows) : ∀ d i : Nat, i + d = rows.length → Evs (fun f => impl_IsTableau.l0 f rows (rows.length : Int) (i : Int) inner rows) true
  | 0, i, e => by
    have h1 : ¬ (i : Int) < (rows.length : Int) := by omega
    refine Evs.succ ?_
    simp only [impl_IsTableau.l0, if_neg h1]
    exact Evs.pure _
  | d + 1, i, e => by
    have h1 : (i : Int) < (rows.length : Int) := by omega
    have h0 : (0 : Int) ≤ (i : Int) := by omega
    refine Evs.succ ?_
    simp only [impl_IsTableau.l0, if_pos h1, if_pos h0, rdL_nat]
    exact tab_l1 h i (by omega) (tab_l0 h d (i + 1) (by omega)) (rows.getD i []).length 0 (by omega)
theorem tab_ev {outer inner : List Int} {rows : List (List Int)} (h : Full outer inner rows) : Evs (fun f => impl_IsTableau.f f inner rows) true := by
  unfold impl_IsTableau.f
  refine (shape_ev h).bind ?_
  simp only [if_true]
  exact tab_l0 h rows.length 0 (by omega)
def digB (x : Int) : ByteArray := ⟨#[Gr.digit x]⟩
theorem fmt_eq (x : Int) (h : 1 ≤ x ∧ x ≤ 9) : impl_FormatInt.f x = some (digB x) := by
  unfold impl_FormatInt.f strconv_Itoa_96.f
  rw [if_pos (by omega), Option.bind_some]
  have : Go.Lib.decDigits x.toNat = [Gr.digit x] := by
    rw [Go.Lib.decDigits, dif_pos (by omega)]; rfl
  rw [this]; rfl
theorem joined_l0 {r : ByteArray} (by_ : ByteArray) (l : List Int) (hl : l.length ≤ 1000) (hx : ∀ x ∈ l, 1 ≤ x ∧ x ≤ 9) : ∀ (rest pre : List Int), l = pre ++ rest → Evs (fun f => (impl_Join.f (l.map digB) by_)) r → Evs (fun f => impl_joined.l0 f by_ (pre.map digB) l (l.length : Int) (pre.length : Int)) r
  | [], pre, e, hr => by
    have h : ¬ (pre.length : Int) < (l.length : Int) := by rw [e]; simp
    refine Evs.succ ?_
    simp only [impl_joined.l0, if_neg h]
    rw [e, List.append_nil] at hr
    refine hr.bind (Evs.pure _)
  | x :: rest, pre, e, hr => by
    have hlen : pre.length < l.length := by rw [e]; simp
    have h2 : (pre.length : Int) < (l.length : Int) := by omega
    have h3 : (0 : Int) ≤ (pre.length : Int) := by omega
    have hrd : rd l (pre.length : Int) = x := by rw [e, rd_mid]
    have hxx := hx x (by rw [e]; simp)
    have h4 : (pre.map digB).length < 8796093022208 := by rw [List.length_map]; omega
    have e2 : wrap64 ((pre.length : Int) + 1) = ((pre ++ [x]).length : Int) := by rw [len_snoc]; exact w64 _ (by omega) (by omega)
    have e3 : pre.map digB ++ [digB x] = (pre ++ [x]).map digB := by simp
    refine Evs.succ ?_
    simp only [impl_joined.l0, if_pos h2, if_pos h3, hrd, fmt_eq x hxx, Option.bind_some, if_pos h4, e2, e3]
    exact joined_l0 by_ l hl hx rest (pre ++ [x]) (by rw [e]; simp) hr
theorem inter_nil : ∀ l : List (List UInt8), List.intercalate [] l = l.flatten
  | [] => rfl
  | [x] => by simp [List.intercalate, List.intersperse]
  | x :: y :: l => by
    rw [Gr.inter_cons, inter_nil (y :: l)]
    simp
theorem flat_dig : ∀ l : List Int, ((l.map digB).map fun b => b.data.toList).flatten = l.map Gr.digit
  | [] => rfl
  | x :: l => by
    rw [List.map_cons, List.map_cons, List.flatten_cons, flat_dig l]
    rfl
theorem joined_ev (l : List Int) (hl : l.length ≤ 1000) (hx : ∀ x ∈ l, 1 ≤ x ∧ x ≤ 9) : Evs (fun f => impl_joined.f f l ⟨#[]⟩) ⟨(l.map Gr.digit).toArray⟩ := by
  unfold impl_joined.f
  refine joined_l0 ⟨#[]⟩ l hl hx l [] rfl ?_
  have hj : Go.Lib.join ((l.map digB).map fun b => b.data.toList) (⟨#[]⟩ : ByteArray).data.toList = l.map Gr.digit := by
    show List.intercalate [] _ = _
    rw [inter_nil, flat_dig]
  refine Evs.of fun _ => ?_
  unfold impl_Join.f strings_Join.f
  rw [hj, if_pos ⟨by rw [List.length_map]; omega, by rw [List.length_map]; omega⟩]
  rfl
theorem repeatL_one (c : UInt8) : ∀ n, Go.Lib.repeatL [c] n = List.replicate n c
  | 0 => rfl
  | n + 1 => by rw [List.replicate_succ, ← repeatL_one c n]; rfl
def lineB (inner : List Int) (rows : List (List Int)) (i : Nat) : ByteArray := (⟨(List.replicate (inner.getD i 0).toNat (46 : UInt8)).toArray⟩ : ByteArray) ++ ⟨((rows.getD i []).map Gr.digit).toArray⟩
theorem lineB_data (inner : List Int) (rows : List (List Int)) (i : Nat) : (lineB inner rows i).data.toList = Gr.line inner i (rows.getD i []) := by
  unfold lineB Gr.line
  rw [ByteArray.data_append]
  simp
theorem text_l0 {outer inner : List Int} {rows : List (List Int)} (h : Full outer inner rows) : ∀ d i : Nat, i + d = rows.length →
    Evs (fun f => impl_TableauText.l0 f ((List.range i).map (lineB inner rows)) rows (rows.length : Int) (i : Int) inner rows) ⟨(List.intercalate [47] (Gr.lines inner rows)).toArray⟩
  | 0, i, e => by
    obtain ⟨hl, h9, hil⟩ := h.len
    have h1 : ¬ (i : Int) < (rows.length : Int) := by omega
    have hi : i = rows.length := by omega
    refine Evs.succ ?_
    simp only [impl_TableauText.l0, if_neg h1]
    refine Evs.of fun _ => ?_
    have hm : ((List.range i).map (lineB inner rows)).map (fun b => b.data.toList) = Gr.lines inner rows := by
      rw [List.map_map, hi]
      unfold Gr.lines
      apply List.map_congr_left
      intro j _
      exact lineB_data inner rows j
    have hj : Go.Lib.join (((List.range i).map (lineB inner rows)).map fun b => b.data.toList) (⟨#[47]⟩ : ByteArray).data.toList = List.intercalate [47] (Gr.lines inner rows) := by rw [hm]; rfl
    have hlen : ∀ l : List (List UInt8), (∀ x ∈ l, x.length ≤ 100) → (List.intercalate [47] l).length ≤ 101 * l.length := by
      intro l
      induction l with
      | nil => intro _; simp [List.intercalate]
      | cons x l ih =>
        intro hx
        have h1 := hx x (List.mem_cons_self ..)
        cases l with
        | nil => simp [List.intercalate, List.intersperse]; omega
        | cons y l =>
          have h2 := ih fun z hz => hx z (List.mem_cons_of_mem _ hz)
          rw [Gr.inter_cons]
          simp only [List.length_append, List.length_cons, List.length_nil] at h2 ⊢
          omega
    have hll := hlen (Gr.lines inner rows) (fun x hx => by
      unfold Gr.lines at hx
      obtain ⟨j, _, rfl⟩ := List.mem_map.1 hx
      unfold Gr.line
      have a1 := (getD_nn h.part.1 j).2
      have a2 := h.row j
      simp only [List.length_append, List.length_replicate, List.length_map]
      omega)
    unfold impl_Join.f strings_Join.f
    rw [hj, if_pos ⟨by simp; omega, by unfold Gr.lines at hll; rw [List.length_map, List.length_range] at hll; unfold Gr.lines; omega⟩]
    rfl
  | d + 1, i, e => by
    obtain ⟨hl, h9, hil⟩ := h.len
    obtain ⟨k, hk, hg⟩ := h.k
    have h1 : (i : Int) < (rows.length : Int) := by omega
    have h0 : (0 : Int) ≤ (i : Int) := by omega
    have hi3 := getD_nn h.part.1 i
    have hr9 := h.row i
    have e2 : wrap64 ((i : Int) + 1) = ((i + 1 : Nat) : Int) := by rw [w64 _ (by omega) (by omega)]; omega
    have hrep : strings_Repeat.f (⟨#[46]⟩ : ByteArray) (inner.getD i 0) = some ⟨(List.replicate (inner.getD i 0).toNat (46 : UInt8)).toArray⟩ := by
      unfold strings_Repeat.f
      rw [if_pos ⟨hi3.1, by omega, by show 1 * _ ≤ _; omega⟩]
      rw [show (⟨#[46]⟩ : ByteArray).data.toList = [46] from rfl, repeatL_one]
    have h5 : (⟨(List.replicate (inner.getD i 0).toNat (46 : UInt8)).toArray⟩ : ByteArray).size + (⟨((rows.getD i []).map Gr.digit).toArray⟩ : ByteArray).size ≤ 9223372036854775807 := by
      simp only [ByteArray.size, List.size_toArray, List.length_replicate, List.length_map]; omega
    have h6 : ((List.range i).map (lineB inner rows)).length < 8796093022208 := by simp; omega
    have e3 : (List.range i).map (lineB inner rows) ++ [lineB inner rows i] = (List.range (i + 1)).map (lineB inner rows) := by rw [List.range_succ]; simp
    refine Evs.succ ?_
    simp only [impl_TableauText.l0, if_pos h1, if_pos h0, at_nat inner i (by omega), Option.bind_some, hrep, rdL_nat]
    refine (joined_ev (rows.getD i []) (by omega) (fun x hx => by have := hg.ent i x hx; omega)).bind ?_
    simp only [if_pos h5, if_pos h6, e2]
    rw [show (⟨(List.replicate (inner.getD i 0).toNat (46 : UInt8)).toArray⟩ : ByteArray) ++ ⟨((rows.getD i []).map Gr.digit).toArray⟩ = lineB inner rows i from rfl, e3]
    exact text_l0 h d (i + 1) (by omega)
theorem text_ev {outer inner : List Int} {rows : List (List Int)} (h : Full outer inner rows) : Evs (fun f => impl_TableauText.f f inner rows) ⟨(Gr.txt inner rows).toArray⟩ := by
  unfold impl_TableauText.f
  refine (tab_ev h).bind ?_
  simp only [if_true]
  by_cases h0 : (rows.length : Int) = 0
  · simp only [if_pos h0]
    have : rows = [] := List.eq_nil_of_length_eq_zero (by omega)
    subst this
    exact Evs.pure _
  · simp only [if_neg h0]
    have hne : rows ≠ [] := fun e => h0 (by rw [e]; rfl)
    unfold Gr.txt
    rw [if_neg hne]
    exact text_l0 h rows.length 0 (by omega)
end Go.Proofs.YtppkfgcnmaifmaaDoor.Hb
namespace Go.Proofs.YtppkfgcnmaifmaaDoor.Hb
open Go.RowKit Go.Proofs.YtppkfgcnmaifmaaDoorW.PrintWords Go.Proofs.YtppkfgcnmaifmaaDoorW.PrintLast Go.Proofs.YtppkfgcnmaifmaaDoorW.PrintMore
attribute [local go_sem] max2_int min2_int max_two min_two max_three min_three max_four min_four
set_option linter.unusedVariables false
set_option linter.unusedSimpArgs false
open Pu
theorem putL_small {B : Nat} (fin : List (List Int) → List (List (List Int))) (outer inner : List Int) (ho : outer.length ≤ 9) (k : Int) (hf : ∀ rows, (fin rows).length ≤ B) : ∀ (left : Nat) (rows : List (List Int)) (row : Nat), (Gr.putL fin outer inner k left rows row).length ≤ 9 ^ left * B
  | 0, rows, _ => by
    rw [Nat.pow_zero, Nat.one_mul]
    exact hf rows
  | left + 1, rows, row => by
    unfold Gr.putL
    rw [List.length_flatMap]
    have h : ∀ l : List Nat, (l.map fun i => (if Gr.skip outer inner rows k i = true then [] else Gr.putL fin outer inner k left (rows.set i (rows.getD i [] ++ [k])) i).length).sum ≤ l.length * (9 ^ left * B) := by
      intro l
      induction l with
      | nil => simp
      | cons i l ih =>
        rw [List.map_cons, List.sum_cons, List.length_cons, Nat.succ_mul]
        have : (if Gr.skip outer inner rows k i = true then [] else Gr.putL fin outer inner k left (rows.set i (rows.getD i [] ++ [k])) i).length ≤ 9 ^ left * B := by
          split
          · simp
          · exact putL_small fin outer inner ho k hf left _ _
        omega
    have h1 := h (List.range' row (outer.length - row))
    rw [List.length_range'] at h1
    refine Nat.le_trans h1 ?_
    rw [Nat.pow_succ, Nat.mul_comm (9 ^ left) 9, Nat.mul_assoc]
    exact Nat.mul_le_mul_right _ (by omega)
theorem growL_small (outer inner : List Int) (ho : outer.length ≤ 9) : ∀ (ws : List Int) (rows : List (List Int)) (k : Int), (Gr.growL outer inner ws rows k).length ≤ 9 ^ (ws.map Int.toNat).sum
  | [], rows, k => by simp [Gr.growL]
  | w :: ws, rows, k => by
    unfold Gr.growL
    have h := putL_small (B := 9 ^ (ws.map Int.toNat).sum) (fun rows => Gr.growL outer inner ws rows (k + 1)) outer inner ho k (fun rows => growL_small outer inner ho ws rows (k + 1)) w.toNat rows 0
    rw [List.map_cons, List.sum_cons, Nat.pow_add]
    exact h
structure Fills (outer inner ws : List Int) : Prop where
  inn : inside inner outer = true
  len : ws.length ≤ 9
  nn : ∀ x ∈ ws, 0 ≤ x
  sum : ws.sum = outer.sum - inner.sum
theorem Fills.start {outer inner ws : List Int} (h : Fills outer inner ws) : Gr.Good outer inner (List.replicate outer.length []) 1 := by
  obtain ⟨h1, h2, h3⟩ := (inside_iff _ _).1 h.inn
  exact Gr.good_start (inside_len h1 h3) (fun x hx => by have := h1.pos x hx; omega) h1.dec' h3
theorem Fills.total {outer inner ws : List Int} (h : Fills outer inner ws) : (ws.map Int.toNat).sum ≤ 9 ∧ (((ws.map Int.toNat).sum : Nat) : Int) = outer.sum - inner.sum := by
  obtain ⟨h1, h2, h3⟩ := (inside_iff _ _).1 h.inn
  have e := Gr.toNat_sum ws h.nn
  have a1 := h2.sum
  have a2 := sum_ge inner h1.pos
  have a3 := h.sum
  exact ⟨by omega, by omega⟩
theorem Fills.full {outer inner ws : List Int} (h : Fills outer inner ws) : ∀ r ∈ impl_tableaux.all outer inner ws, Full outer inner r := fun r hr => by
  obtain ⟨g, c⟩ := Gr.growL_good ws _ 1 h.start r hr
  rw [Gr.cells_start] at c
  have ht := h.total.2
  exact ⟨⟨_, by have := h.len; omega, g⟩, Gr.good_full g (by omega), h.inn⟩
theorem nil_full : Full [] [] [] := by
  refine ⟨⟨1, by omega, ⟨rfl, Nat.le_refl _, ?_, ?_, Int.le_refl _, ?_, ?_, ?_, ?_, ?_⟩⟩, ?_, by decide⟩
  · intro x h; cases h
  · intro i; simp
  · intro i h; simp at h
  · intro i h; simp at h
  · intro i x h; simp at h
  · intro i; simp
  · intro i _ j h; simp at h
  · intro i h; simp at h
theorem tableaux_fine {outer inner ws : List Int} (h : Fills outer inner ws) : ∃ K, ∀ k, K ≤ k → impl_tableaux.fine k outer inner ws = true := by
  obtain ⟨h1, h2, h3⟩ := (inside_iff _ _).1 h.inn
  obtain ⟨K1, hK1⟩ := text_ev nil_full
  obtain ⟨K2, hK2⟩ := Evs.all (g := fun r f => impl_TableauText.f f inner r) (f := fun r => ⟨(Gr.txt inner r).toArray⟩) (impl_tableaux.all outer inner ws) fun r hr => text_ev (h.full r hr)
  refine ⟨max K1 K2, fun k hk => ?_⟩
  have ht := h.total
  unfold impl_tableaux.fine
  simp only [Bool.and_eq_true, List.all_eq_true, decide_eq_true_eq]
  refine ⟨⟨⟨⟨⟨⟨⟨⟨nn_of h2, nn_of h1⟩, ?_⟩, ?_⟩, h.nn⟩, ?_⟩, ?_⟩, ?_⟩, ⟨?_, ?_⟩, ?_⟩
  · have := h2.len; omega
  · have := h1.len; omega
  · have := h.len; omega
  · unfold impl_grow.total; omega
  · have h4 := growL_small outer inner h2.len ws (List.replicate outer.length []) 1
    have h5 : 9 ^ (ws.map Int.toNat).sum ≤ 9 ^ 9 := Nat.pow_le_pow_right (by decide) ht.1
    have h6 : 9 ^ 9 < 2000000000 := by decide
    exact Nat.lt_of_le_of_lt (Nat.le_trans h4 h5) h6
  · have e1 : impl_TableauText.f k [] [] = _ := hK1 k (by omega)
    rw [e1]; rfl
  · intro r hr
    have e2 : impl_TableauText.f k inner r = _ := hK2 k (by omega) r hr
    rw [e2]; rfl
  · exact Gr.txts_nodup ws h.len h.nn h.start h.sum
theorem tableaux_ev {outer inner ws : List Int} (h : Fills outer inner ws) (hw : ∀ x ∈ ws, x ≤ 9) : Evs (fun f => impl_tableaux.f f outer inner ws) (impl_tableaux.sorted outer inner ws) := by
  obtain ⟨h1, h2, h3⟩ := (inside_iff _ _).1 h.inn
  have a1 := h1.len
  have a2 := h2.len
  have a3 := h.len
  unfold impl_tableaux.f
  refine (sum_ev ws (by omega) (fun x hx => ⟨h.nn x hx, hw x hx⟩)).bind ((count_ev outer inner (by omega) (by omega)).bind ?_)
  rw [if_pos h.inn]
  have hne : ¬ ws.sum ≠ outer.sum - inner.sum := by rw [h.sum]; simp
  simp only [if_neg hne]
  obtain ⟨K, hK⟩ := tableaux_fine h
  exact ⟨K, fun k hk => if_pos (hK k hk)⟩
theorem sorted_length (outer inner ws : List Int) : (impl_tableaux.sorted outer inner ws).length = (impl_tableaux.all outer inner ws).length := by
  unfold impl_tableaux.sorted
  rw [List.length_map, List.length_mergeSort]
end Go.Proofs.YtppkfgcnmaifmaaDoor.Hb
namespace Go.Proofs.YtppkfgcnmaifmaaDoor.Hb
open Go.RowKit Go.Proofs.YtppkfgcnmaifmaaDoorW.PrintWords Go.Proofs.YtppkfgcnmaifmaaDoorW.PrintLast Go.Proofs.YtppkfgcnmaifmaaDoorW.PrintMore
attribute [local go_sem] max2_int min2_int max_two min_two max_three min_three max_four min_four
set_option linter.unusedVariables false
set_option linter.unusedSimpArgs false
open Pu
theorem rdL_last (c : List (List Int)) (p : List Int) : rd_L3 (c ++ [p]) (((c ++ [p]).length : Int) - 1) = p := by
  unfold rd_L3
  have : (((c ++ [p]).length : Int) - 1).toNat = c.length := by simp
  rw [this]
  simp [List.getD]
def chains (outer inner : List Int) : List Int → List (List Int) → Int → List (List Int) → List (List (List Int))
  | [], rows, _, chain => [chain]
  | _ :: ws, rows, k, chain => (List.range outer.length).flatMap fun r => if Gr.skip outer inner rows k r then [] else chains outer inner ws (Gr.push rows r k) (k + 1) (chain ++ [Gr.ptn outer inner (Gr.push rows r k)])
theorem chains_length (outer inner : List Int) : ∀ (m : Nat) (rows : List (List Int)) (k : Int) (chain : List (List Int)), (chains outer inner (List.replicate m 1) rows k chain).length = (Gr.growL outer inner (List.replicate m 1) rows k).length
  | 0, _, _, _ => rfl
  | m + 1, rows, k, chain => by
    rw [List.replicate_succ, Gr.growL_one]
    unfold chains
    rw [List.length_flatMap, List.length_flatMap]
    congr 1
    apply List.map_congr_left
    intro r _
    split
    · rfl
    · exact chains_length outer inner m _ _ _
theorem chains_small (outer inner : List Int) (ho : outer.length ≤ 9) : ∀ (m : Nat) (rows : List (List Int)) (k : Int) (chain : List (List Int)), (chains outer inner (List.replicate m 1) rows k chain).length ≤ 9 ^ m
  | 0, _, _, _ => by simp [chains]
  | m + 1, rows, k, chain => by
    rw [List.replicate_succ]
    unfold chains
    rw [List.length_flatMap]
    have h : ∀ l : List Nat, (l.map fun r => (if Gr.skip outer inner rows k r = true then [] else chains outer inner (List.replicate m 1) (Gr.push rows r k) (k + 1) (chain ++ [Gr.ptn outer inner (Gr.push rows r k)])).length).sum ≤ l.length * 9 ^ m := by
      intro l
      induction l with
      | nil => simp
      | cons r l ih =>
        rw [List.map_cons, List.sum_cons, List.length_cons, Nat.succ_mul]
        have : (if Gr.skip outer inner rows k r = true then [] else chains outer inner (List.replicate m 1) (Gr.push rows r k) (k + 1) (chain ++ [Gr.ptn outer inner (Gr.push rows r k)])).length ≤ 9 ^ m := by
          split
          · simp
          · exact chains_small outer inner ho m _ _ _
        omega
    have h1 := h (List.range outer.length)
    rw [List.length_range] at h1
    refine Nat.le_trans h1 ?_
    rw [Nat.pow_succ, Nat.mul_comm]
    exact Nat.mul_le_mul_left _ ho
theorem chains_small9 (outer inner : List Int) (ho : outer.length ≤ 9) (m : Nat) (hm : m ≤ 9) (rows : List (List Int)) (k : Int) (chain : List (List Int)) : (chains outer inner (List.replicate m 1) rows k chain).length ≤ 387420489 :=
  Nat.le_trans (chains_small outer inner ho m rows k chain) (Nat.le_trans (Nat.pow_le_pow_right (by decide) hm) (by decide))
theorem chains_ev (outer inner : List Int) (ho : Part outer) : ∀ (m : Nat) (rows : List (List Int)) (k : Int) (c : List (List Int)), Gr.Good outer inner rows k → Gr.room outer inner rows = m → c.length + m ≤ 1000 → m ≤ 9 →
    Evs (fun f => spec_l6Chains.f f outer (c ++ [Gr.ptn outer inner rows])) (chains outer inner (List.replicate m 1) rows k (c ++ [Gr.ptn outer inner rows]))
  | 0, rows, k, c, hg, hm, hc, hm9 => by
    have hl := ho.len
    have hp := Gr.ptn_part ho hg
    have hpl := hp.len
    have e1 : wrap64 (((c ++ [Gr.ptn outer inner rows]).length : Int) - 1) = ((c ++ [Gr.ptn outer inner rows]).length : Int) - 1 := w64 _ (by omega) (by simp; omega)
    have h1 : (0 : Int) ≤ ((c ++ [Gr.ptn outer inner rows]).length : Int) - 1 := by simp
    have h2 : ((c ++ [Gr.ptn outer inner rows]).length : Int) - 1 < ((c ++ [Gr.ptn outer inner rows]).length : Int) := by omega
    refine Evs.succ ?_
    simp only [spec_l6Chains.f, e1, if_pos h1, if_pos h2, rdL_last]
    refine (size_ev _ (by omega) (nn_of hp)).bind ((size_ev _ (by omega) (nn_of ho)).bind ?_)
    have he : (Gr.ptn outer inner rows).sum = outer.sum := by unfold Gr.room at hm; omega
    simp only [if_pos he]
    exact Evs.pure _
  | m + 1, rows, k, c, hg, hm, hc, hm9 => by
    have hl := ho.len
    have hp := Gr.ptn_part ho hg
    have hpl := hp.len
    have hgl := hg.len
    have e1 : wrap64 (((c ++ [Gr.ptn outer inner rows]).length : Int) - 1) = ((c ++ [Gr.ptn outer inner rows]).length : Int) - 1 := w64 _ (by omega) (by simp; omega)
    have h1 : (0 : Int) ≤ ((c ++ [Gr.ptn outer inner rows]).length : Int) - 1 := by simp
    have h2 : ((c ++ [Gr.ptn outer inner rows]).length : Int) - 1 < ((c ++ [Gr.ptn outer inner rows]).length : Int) := by omega
    have he : ¬ (Gr.ptn outer inner rows).sum = outer.sum := by unfold Gr.room at hm; omega
    -- the loop over the rows
    have loop : ∀ (d r : Nat) (out : List (List (List Int))), r + d = (Gr.ptn outer inner rows).length + 1 → out.length + d * 387420489 ≤ 3874204890 →
        Evs (fun f => spec_l6Chains.l0 f outer (c ++ [Gr.ptn outer inner rows]) (Gr.ptn outer inner rows) out (r : Int))
          (out ++ (List.range' r d).flatMap fun r => if r < outer.length then (if Gr.skip outer inner rows k r then [] else chains outer inner (List.replicate m 1) (Gr.push rows r k) (k + 1) ((c ++ [Gr.ptn outer inner rows]) ++ [Gr.ptn outer inner (Gr.push rows r k)])) else []) := by
      intro d
      induction d with
      | zero =>
        intro r out hr _
        have h3 : ¬ (r : Int) ≤ ((Gr.ptn outer inner rows).length : Int) := by omega
        refine Evs.succ ?_
        simp only [spec_l6Chains.l0, if_neg h3]
        exact (Evs.pure _).same (by simp)
      | succ d ih =>
        intro r out hr hout
        have h3 : (r : Int) ≤ ((Gr.ptn outer inner rows).length : Int) := by omega
        have hr' : r ≤ (Gr.ptn outer inner rows).length := by omega
        have e2 : wrap64 ((r : Int) + 1) = ((r + 1 : Nat) : Int) := by rw [w64 _ (by omega) (by omega)]; omega
        have hL1 : ∀ L, L ≤ 387420489 → out.length + L < 5864062014805 := fun L hL => by omega
        have hL2 : ∀ L, L ≤ 387420489 → out.length + L + d * 387420489 ≤ 3874204890 := fun L hL => by omega
        have hL3 : out.length + d * 387420489 ≤ 3874204890 := Nat.le_trans (Nat.add_le_add_left (Nat.mul_le_mul_right _ (Nat.le_succ d)) _) hout
        have hd1 : r + 1 + d = (Gr.ptn outer inner rows).length + 1 := by omega
        have hcl2 : (c ++ [Gr.ptn outer inner rows]).length + m ≤ 1000 := by rw [List.length_append, List.length_singleton]; omega
        have h4 : (([] : List (List Int)).length + (c ++ [Gr.ptn outer inner rows]).length < 5864062014805) := by rw [List.length_nil]; omega
        have h5 : (c ++ [Gr.ptn outer inner rows]).length < 5864062014805 := by omega
        refine Evs.succ ?_
        simp only [spec_l6Chains.l0, if_pos h3, e2]
        refine (addbox_ev _ hp r hr').bind ?_
        rw [List.range'_succ, List.flatMap_cons]
        have hin := Gr.box_inside ho hg r hr'
        by_cases hA : isPt (box (Gr.ptn outer inner rows) r) = true
        · simp only [hA, if_true]
          refine (sins_ev _ outer (Nat.le_trans ((isPt_iff _).1 hA).len (by omega)) (Nat.le_trans hl (by omega))).bind ?_
          by_cases hB : inside (box (Gr.ptn outer inner rows) r) outer = true
          · obtain ⟨hro, hs⟩ := hin.1 ⟨hA, hB⟩
            have hg2 := Gr.push_good hg r hro hs
            have hb := Gr.box_ptn ho hg r hr' hro hs
            have hroom := Gr.room_push hg r hro hs m hm
            have hsm := chains_small9 outer inner hl m (by omega) (Gr.push rows r k) (k + 1) ((c ++ [Gr.ptn outer inner rows]) ++ [Gr.ptn outer inner (Gr.push rows r k)])
            have h6 := hL1 _ hsm
            have hB2 : inside (Gr.ptn outer inner (Gr.push rows r k)) outer = true := hb ▸ hB
            simp only [hb, hB2, if_true, Option.bind_some, if_pos h4, List.nil_append, if_pos h5]
            have hrec := chains_ev outer inner ho m (Gr.push rows r k) (k + 1) (c ++ [Gr.ptn outer inner rows]) hg2 hroom hcl2 (Nat.le_of_succ_le hm9)
            refine hrec.bind ?_
            simp only [if_pos h6]
            refine (ih (r + 1) _ hd1 (by rw [List.length_append]; exact hL2 _ hsm)).same ?_
            rw [if_pos hro, hs]
            simp [List.append_assoc]
          · have hn : (if r < outer.length then (if Gr.skip outer inner rows k r then [] else chains outer inner (List.replicate m 1) (Gr.push rows r k) (k + 1) ((c ++ [Gr.ptn outer inner rows]) ++ [Gr.ptn outer inner (Gr.push rows r k)])) else []) = [] := by
              by_cases hro : r < outer.length
              · rw [if_pos hro]
                cases hs : Gr.skip outer inner rows k r with
                | true => rfl
                | false => exact absurd (hin.2 ⟨hro, hs⟩).2 hB
              · rw [if_neg hro]
            simp only [hB, Bool.false_eq_true, if_false]
            refine (ih (r + 1) out hd1 hL3).same ?_
            rw [hn, List.nil_append]
        · have hn : (if r < outer.length then (if Gr.skip outer inner rows k r then [] else chains outer inner (List.replicate m 1) (Gr.push rows r k) (k + 1) ((c ++ [Gr.ptn outer inner rows]) ++ [Gr.ptn outer inner (Gr.push rows r k)])) else []) = [] := by
            by_cases hro : r < outer.length
            · rw [if_pos hro]
              cases hs : Gr.skip outer inner rows k r with
              | true => rfl
              | false => exact absurd (hin.2 ⟨hro, hs⟩).1 hA
            · rw [if_neg hro]
          simp only [hA, Bool.false_eq_true, if_false]
          refine (ih (r + 1) out hd1 hL3).same ?_
          rw [hn, List.nil_append]
    refine Evs.succ ?_
    simp only [spec_l6Chains.f, e1, if_pos h1, if_pos h2, rdL_last]
    refine (size_ev _ (by omega) (nn_of hp)).bind ((size_ev _ (by omega) (nn_of ho)).bind ?_)
    simp only [if_neg he]
    have hl2 := loop ((Gr.ptn outer inner rows).length + 1) 0 [] (by omega) (by simp; omega)
    refine hl2.same ?_
    rw [List.nil_append, ← List.range_eq_range', List.replicate_succ]
    conv => rhs; unfold chains
    rw [← Gr.flatMap_upto _ outer.length _ (fun r hr => by rw [if_neg (by omega)]) (fun r hr => by
      by_cases hro : r < outer.length
      · rw [if_pos hro, Gr.skip_behind ho hg r (by omega) hro]; rfl
      · rw [if_neg hro])]
    rw [List.flatMap_def, List.flatMap_def]
    congr 1
    apply List.map_congr_left
    intro r hr
    rw [if_pos (List.mem_range.1 hr)]
end Go.Proofs.YtppkfgcnmaifmaaDoor.Hb
namespace Go.Proofs.YtppkfgcnmaifmaaDoor.Hb
open Go.RowKit Go.Proofs.YtppkfgcnmaifmaaDoorW.PrintWords Go.Proofs.YtppkfgcnmaifmaaDoorW.PrintLast Go.Proofs.YtppkfgcnmaifmaaDoorW.PrintMore
attribute [local go_sem] max2_int min2_int max_two min_two max_three min_three max_four min_four
set_option linter.unusedVariables false
set_option linter.unusedSimpArgs false
open Pu
theorem sum_ones (m : Nat) : (List.replicate m (1 : Int)).sum = m := by
  induction m with
  | zero => rfl
  | succ m ih => rw [List.replicate_succ, List.sum_cons, ih]; omega
theorem ones_fills {outer inner : List Int} (h : inside inner outer = true) : Fills outer inner (List.replicate (outer.sum - inner.sum).toNat 1) ∧ 0 ≤ outer.sum - inner.sum ∧ outer.sum - inner.sum ≤ 9 := by
  obtain ⟨h1, h2, h3⟩ := (inside_iff _ _).1 h
  have a1 := h2.sum
  have a2 := sum_ge inner h1.pos
  have a3 := sum_le_of inner outer h3
  refine ⟨⟨h, by rw [List.length_replicate]; omega, fun x hx => by rw [(List.mem_replicate.1 hx).2]; omega, by rw [sum_ones]; omega⟩, by omega, by omega⟩
theorem standard_ev (outer inner : List Int) (ho : outer.length ≤ 4000000) (hi : inner.length ≤ 4000000) :
    Evs (fun f => impl_StandardTableaux.f f outer inner) (if inside inner outer = true then impl_tableaux.sorted outer inner (List.replicate (outer.sum - inner.sum).toNat 1) else []) := by
  unfold impl_StandardTableaux.f
  refine (ishape_ev outer inner ho hi).bind ?_
  cases h : inside inner outer with
  | false =>
    simp only [Bool.false_eq_true, if_false]
    exact Evs.pure _
  | true =>
    obtain ⟨hf, b1, b2⟩ := ones_fills h
    simp only [if_true]
    refine (count_ev outer inner ho hi).bind ?_
    have h1 : impl_ones.f (outer.sum - inner.sum) = some (List.replicate (outer.sum - inner.sum).toNat 1) := by
      unfold impl_ones.f slices_Repeat_int_int.f
      rw [if_pos ⟨rfl, b1, by omega⟩]; rfl
    simp only [h, if_true, h1, Option.bind_some]
    exact (tableaux_ev hf (fun x hx => by rw [(List.mem_replicate.1 hx).2]; omega)).bind (Evs.pure _)
theorem icount_ev (outer inner : List Int) (ho : outer.length ≤ 4000000) (hi : inner.length ≤ 4000000) :
    Evs (fun f => impl_CountStandard.f f outer inner) (if inside inner outer = true then ((impl_tableaux.all outer inner (List.replicate (outer.sum - inner.sum).toNat 1)).length : Int) else 0) := by
  unfold impl_CountStandard.f
  refine (standard_ev outer inner ho hi).bind ((Evs.pure _).same ?_)
  split
  · rw [sorted_length]
  · rfl
theorem ptn_start {outer inner : List Int} (h : inside inner outer = true) : Gr.ptn outer inner (List.replicate outer.length []) = inner := by
  obtain ⟨h1, h2, h3⟩ := (inside_iff _ _).1 h
  have hg := (ones_fills h).1.start
  refine Part.ext (Gr.ptn_part h2 hg) h1 fun i => ?_
  rw [Gr.ptn_getD hg]
  by_cases hi : i < outer.length
  · rw [if_pos hi]
    unfold Gr.col
    rw [Gr.atL_nat]
    simp [List.getD, hi]
  · rw [if_neg hi]
    have := inside_len h1 h3
    rw [getD_out inner i (by omega)]
theorem scount_ev (outer inner : List Int) (ho : outer.length ≤ 4000000) (hi : inner.length ≤ 4000000) :
    Evs (fun f => spec_CountStandard.f f outer inner) (if inside inner outer = true then ((impl_tableaux.all outer inner (List.replicate (outer.sum - inner.sum).toNat 1)).length : Int) else 0) := by
  unfold spec_CountStandard.f
  refine (sshape_ev outer inner ho hi).bind ?_
  cases h : inside inner outer with
  | false =>
    simp only [Bool.false_eq_true, if_false]
    exact Evs.pure _
  | true =>
    obtain ⟨h1, h2, h3⟩ := (inside_iff _ _).1 h
    obtain ⟨hf, b1, b2⟩ := ones_fills h
    have hl := h1.len
    have h4 : (([] : List Int).length + inner.length < 17592186044416) := by rw [List.length_nil]; omega
    simp only [if_true, Option.bind_some, if_pos h4, List.nil_append]
    have hroom : Gr.room outer inner (List.replicate outer.length []) = ((outer.sum - inner.sum).toNat : Nat) := by
      unfold Gr.room
      rw [ptn_start h]
      omega
    have hc := chains_ev outer inner h2 (outer.sum - inner.sum).toNat (List.replicate outer.length []) 1 [] hf.start hroom (by rw [List.length_nil]; omega) (by omega)
    rw [ptn_start h] at hc
    refine hc.bind ((Evs.pure _).same ?_)
    rw [chains_length]
    rfl
theorem toInt_l0 (l : List Int) (hl : l.length ≤ 10000000) : ∀ (rest pre : List Int), l = pre ++ rest → Evs (fun f => laws_toIntS.l0 f l (pre ++ List.replicate rest.length 0) (pre.length : Int)) l
  | [], pre, e => by
    have h : ¬ (pre.length : Int) < (l.length : Int) := by rw [e]; simp
    refine Evs.succ ?_
    simp only [laws_toIntS.l0, if_neg h]
    exact (Evs.pure _).same (by rw [e]; simp)
  | x :: rest, pre, e => by
    have hlen : pre.length < l.length := by rw [e]; simp
    have h2 : (pre.length : Int) < (l.length : Int) := by omega
    have h3 : (0 : Int) ≤ (pre.length : Int) := by omega
    have h4 : (pre.length : Int) < ((pre ++ List.replicate (x :: rest).length 0).length : Int) := by simp; omega
    have hrd : rd l (pre.length : Int) = x := by rw [e, rd_mid]
    have e2 : wrap64 ((pre.length : Int) + 1) = ((pre ++ [x]).length : Int) := by rw [len_snoc]; exact w64 _ (by omega) (by omega)
    have e3 : (pre ++ List.replicate (x :: rest).length 0).set ((pre.length : Int) : Int).toNat x = (pre ++ [x]) ++ List.replicate rest.length 0 := by
      rw [Int.toNat_natCast, List.set_append_right _ _ (Nat.le_refl _), Nat.sub_self, List.length_cons, List.replicate_succ, List.set_cons_zero]
      simp
    refine Evs.succ ?_
    simp only [laws_toIntS.l0, if_pos h2, if_pos h3, if_pos h4, hrd, e2, e3]
    exact toInt_l0 l hl rest (pre ++ [x]) (by rw [e]; simp)
theorem toInt_ev (l : List Int) (hl : l.length ≤ 10000000) : Evs (fun f => laws_toIntS.f f l) l := by
  have h1 : (0 : Int) ≤ (l.length : Int) := by omega
  have h2 : ((l.length : Int) : Int).toNat ≤ 35184372088832 := by omega
  unfold laws_toIntS.f
  simp only [if_pos h1, if_pos h2]
  rw [Int.toNat_natCast]
  exact toInt_l0 l hl l [] rfl
theorem toShape_ev (o i : List Int) (ho : o.length ≤ 10000000) (hi : i.length ≤ 10000000) : Evs (fun f => laws_toShape.f f o i) (o, i) := by
  unfold laws_toShape.f
  exact (toInt_ev o ho).bind ((toInt_ev i hi).bind (Evs.pure _))
theorem eqInt_l0 (l : List Int) (hl : l.length ≤ 10000000) : ∀ d i : Nat, i + d = l.length → Evs (fun f => laws_eqIntS.l0 f l l (i : Int)) true
  | 0, i, e => by
    have h : ¬ (i : Int) < (l.length : Int) := by omega
    refine Evs.succ ?_
    simp only [laws_eqIntS.l0, if_neg h]
    exact Evs.pure _
  | d + 1, i, e => by
    have h2 : (i : Int) < (l.length : Int) := by omega
    have h3 : (0 : Int) ≤ (i : Int) := by omega
    have e2 : wrap64 ((i : Int) + 1) = ((i + 1 : Nat) : Int) := by rw [w64 _ (by omega) (by omega)]; omega
    refine Evs.succ ?_
    simp only [laws_eqIntS.l0, if_pos h2, if_pos h3, if_true, e2]
    exact eqInt_l0 l hl d (i + 1) (by omega)
theorem eqInt_ev (l : List Int) (hl : l.length ≤ 10000000) : Evs (fun f => laws_eqIntS.f f l l) true := by
  unfold laws_eqIntS.f
  simp only [if_true]
  exact eqInt_l0 l hl l.length 0 (by omega)
theorem eqShape_ev (o i : List Int) (ho : o.length ≤ 10000000) (hi : i.length ≤ 10000000) : Evs (fun f => laws_eqShape.f f o i o i) true := by
  unfold laws_eqShape.f
  refine (eqInt_ev o ho).bind ?_
  simp only [if_true]
  refine (eqInt_ev i hi).bind ?_
  simp only [if_true]
  exact Evs.pure _
theorem szInt_eq (l : List Int) (a : Int) (ha : 0 ≤ a ∧ a ≤ 1048576) (hl : l.length ≤ 9223372036854775807) : laws_szIntS.f l a = some (if a - (l.length : Int) < 0 then -1 else a - (l.length : Int)) := by
  unfold laws_szIntS.f
  rw [w64 _ (by omega) (by omega)]
  split <;> rfl
theorem szShape_eq (o i : List Int) (ho : o.length ≤ 9223372036854775807) (hi : i.length ≤ 9223372036854775807) : ∃ n : Int, laws_szShape.f o i 1048576 = some n ∧ (0 ≤ n → o.length ≤ 1048576 ∧ i.length ≤ 1048576) := by
  unfold laws_szShape.f
  rw [szInt_eq o 1048576 (by omega) ho, Option.bind_some]
  by_cases h1 : (1048576 : Int) - (o.length : Int) < 0
  · rw [if_pos h1, if_pos (by omega)]
    exact ⟨-1, rfl, fun h => by omega⟩
  · rw [if_neg h1, if_neg h1, szInt_eq i _ (by omega) hi, Option.bind_some]
    by_cases h2 : (1048576 : Int) - (o.length : Int) - (i.length : Int) < 0
    · rw [if_pos h2, if_pos (by omega)]
      exact ⟨-1, rfl, fun h => by omega⟩
    · rw [if_neg h2, if_neg h2]
      exact ⟨_, rfl, fun _ => by omega⟩
theorem count_law (o i : List Int) (ho : o.length ≤ 9223372036854775807) (hi : i.length ≤ 9223372036854775807) : ∃ k, laws_FnExactCountStandard.f k o i = some true := by
  refine Evs.get (r := true) ?_
  obtain ⟨n, hn, hs⟩ := szShape_eq o i (by omega) (by omega)
  unfold laws_FnExactCountStandard.f
  simp only [hn, Option.bind_some]
  by_cases h0 : n < 0
  · simp only [if_pos h0]
    exact Evs.pure _
  · obtain ⟨h1, h2⟩ := hs (by omega)
    have ic := icount_ev o i (by omega) (by omega)
    have sc := scount_ev o i (by omega) (by omega)
    simp only [if_neg h0]
    refine (toShape_ev o i (by omega) (by omega)).bind (sc.bind ((toShape_ev o i (by omega) (by omega)).bind (ic.bind ?_)))
    simp only [if_true]
    refine (toShape_ev o i (by omega) (by omega)).bind ((eqShape_ev o i (by omega) (by omega)).bind ?_)
    simp only [if_true]
    exact Evs.pure _
end Go.Proofs.YtppkfgcnmaifmaaDoor.Hb
