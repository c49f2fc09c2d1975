/- What the proof of the law leans on, part 5 of 7: contracts of the functions that it reaches, the words they are told in (laid by the kit's print.sh, here only as far as they are used), and what they come to. -/
import Derived.Shelf.Strings.Builder1
import Derived.Shelf.Strings.Builder2
import Derived.Shelf.Strings.OnBuilder
import Derived.Shelf.Strings.Trim
import Derived.Shelf.Small.Utf8
import Derived.Shelf.Small.Bits
import Derived.Shelf.Small.Strs
import Derived.Shelf.Strings.BuilderF
import Derived.Shelf.Strings.BuilderK
import Derived.Shelf.Strings.Builder2Cap
import Derived.Shelf.Strconv.Itoa0
import Derived.Shelf.Strconv.Itoa1
import Derived.Shelf.LaysM
import Derived.Shelf.Strconv.Itoa2
import Derived.Shelf.Strconv.Itoa3
import Derived.Shelf.Strings.Search1
import Derived.Shelf.Strings.Prefix
import Derived.Shelf.Unicode.Decode
import Derived.Shelf.Strings.Runes
import Derived.Shelf.Strings.AsciiSet
import Derived.Shelf.Bits.Mul64
import Derived.Shelf.Strings.Repeat
import Derived.Shelf.Unicode.DecodeSlow
import Derived.Shelf.Unicode.DecodeAny
import Derived.Shelf.Unicode.DecodeLast
import Derived.Shelf.Slices.Turned
import Derived.Ground.Names2Prog
import Derived.Shelf.Slices.Clone
import Derived.Ground.SlgnProg
import Derived.Shelf.SlicesE.Clone
import Derived.Ground.SlgfProg
import Derived.Shelf.SlicesE.IndexFunc
import Derived.Test.YtppkfgcnmaifmaaDoorProg
import Derived.Shelf.SlicesE.IndexFunc
import Derived.Ground.SlgfProg
import Derived.Test.YtppkfgcnmaifmaaDoorVb4
namespace Go.Proofs.YtppkfgcnmaifmaaDoor.Hb
open Go.RowKit Go.Proofs.YtppkfgcnmaifmaaDoorW.PrintWords Go.Proofs.YtppkfgcnmaifmaaDoorW.PrintLast Go.Proofs.YtppkfgcnmaifmaaDoorW.PrintMore
attribute [local go_sem] max2_int min2_int max_two min_two max_three min_three max_four min_four   -- for this text's walks alone
set_option linter.unusedVariables false
set_option linter.unusedSimpArgs false
theorem impl_grow.own_loop (rows : List (List Int)) (hr : rows.length ≤ 1000) (hrs : ∀ r ∈ rows, r.length ≤ 1000) (r1 : List Int) : ∀ (m i : Nat), i + m = rows.length → impl_Tableau_own.l0 (m + 1) rows (rows.length : Int) (i : Int) r1 (rows.take i) = some (r1, rows) := by
  intro m
  induction m with
  | zero =>
    intro i hi
    unfold impl_Tableau_own.l0
    rw [if_neg (by omega), List.take_of_length_le (by omega)]
  | succ m ih =>
    intro i hi
    have hlt : i < rows.length := by omega
    have hrd : rd_L3 rows (i : Int) = rows[i] := by simp [rd_L3, List.getD, hlt]
    unfold impl_Tableau_own.l0
    rw [if_pos (by omega), if_pos (by omega), if_pos (by omega), hrd]
    unfold slices_Clone_int_int.f
    have := hrs rows[i] (List.getElem_mem hlt)
    rw [if_pos (by omega), Option.bind_some, if_pos (by rw [List.length_take]; omega), impl_grow.w64 _ (by omega) (by omega)]
    have h := ih (i + 1) (by omega)
    rw [List.take_succ_eq_append_getElem hlt] at h
    exact h
theorem impl_grow.own_eq (inner : List Int) (rows : List (List Int)) (hi : inner.length ≤ 1000) (hr : rows.length ≤ 1000) (hrs : ∀ r ∈ rows, r.length ≤ 1000) : impl_Tableau_own.f (rows.length + 1) inner rows = some (inner, rows) := by
  unfold impl_Tableau_own.f slices_Clone_int_int.f
  rw [if_pos (by omega)]
  exact impl_grow.own_loop rows hr hrs inner rows.length 0 (by omega)
theorem impl_grow.S_some {α : Type} {d : Kd α} {e base : Nat} {w : World} {ok : Nat → Prop} {v : Value} {xs : List α} (h : Kd.S d e w base ok v xs) (hx : 0 < xs.length) : v.ownBlock ≠ none := by
  obtain ⟨ad, c, rfl⟩ := Kd.R_slice1 (Kd.S_R h) hx
  simp [Value.ownBlock]
def impl_tableaux.T137_2 : Bool × List (List Nat × List Nat) := (true, [([], []), ([], []), ([1], [1]), ([0, 2, 2], [0, 2])])
def impl_tableaux.B137_2 : List Nat := [0, 0, 2, 7]
theorem impl_tableaux.tab137_2 : rtab .any (opsOf Tryd.f137 2) = impl_tableaux.T137_2 := by kernel_rfl
theorem impl_tableaux.bits137_2 : waitsOk impl_tableaux.T137_2.2 impl_tableaux.B137_2 = true := by kernel_rfl
def impl_tableaux.T137_5 : Bool × List (List Nat × List Nat) := (true, [([], []), ([], []), ([1], [1]), ([2], [2]), ([0, 3], [0, 3])])
def impl_tableaux.B137_5 : List Nat := [0, 0, 2, 6, 15]
theorem impl_tableaux.tab137_5 : rtab .any (opsOf Tryd.f137 5) = impl_tableaux.T137_5 := by kernel_rfl
theorem impl_tableaux.bits137_5 : waitsOk impl_tableaux.T137_5.2 impl_tableaux.B137_5 = true := by kernel_rfl
set_option maxHeartbeats 4000000 in
set_option maxRecDepth 100000 in
theorem impl_grow.nil_ok (B go gR : Nat) (outer inner : List Int) (Ao Ai At : Option Addr) (co ci ct : Nat) (hct : inner.length ≤ ct) (hlo : outer.length ≤ 1000) (hli : inner.length ≤ 1000) : impl_grow.Ok B go gR outer inner Ao Ai At co ci ct [] := by
  intro k rows ts T O w Aw cw hst hrl hrs hk0 hk1 hts hAo hAi hAt hAw hcw
  have hu38 := Tryd.underlying38
  have hu56 := Tryd.underlying56
  have HST := Aside0.mk hst
  have HAt := Aside0.mk hAt
  have HRS := Aside0.mk hrs
  have HTS := Aside0.mk hts
  have HRL := Aside0.mk hrl
  clear hst hAo hAi hAt hAw hrs hts hrl
  go_enter Tryd.func137, Tryd.ntmps137
  go_wp2_with (first
    | ((with_reducible refine gate_dst (N := 5) rfl ?_); refine box_event ?hg (N := 5) ?hd (cs := #[.slice Ao outer.length co, .slice Ai inner.length ci]) (t := 38) ?hr ?_; (case hd => rfl); (case hg => rfl); (case hr => first | (go_simp; done) | (go_simp; rfl)); intro g5 h5 w5 hb5 hl5; have L5 := Aside0.mk hl5; clear hb5 hl5 h5)
    | ((with_reducible refine gate_dst (N := 6) rfl ?_); refine box_event ?hg (N := 6) ?hd (cs := #[.slice At inner.length ct, .slice (some ⟨gR, 0, none⟩) outer.length outer.length]) (t := 56) ?hr ?_; (case hd => rfl); (case hg => rfl); (case hr => first | (go_simp; done) | (go_simp; rfl)); intro g6 h6 w6 hb6 hl6; have B6 := Aside0.mk hb6; have L6 := Aside0.mk (below_step L5.out hl6); clear hb6 hl6 h6)
    | ((with_reducible refine gate_dst (N := 7) rfl ?_); refine box_event ?hg (N := 7) ?hd (cs := #[.int .i64 k]) (t := 3) ?hr ?_; (case hd => rfl); (case hg => rfl); (case hr => first | (go_simp; done) | (go_simp; rfl)); intro g7 h7 w7 hb7 hl7; have L7 := Aside0.mk (below_step L6.out hl7); have B67 := Aside0.mk (blk_below B6.out hl7); clear hb7 hl7 h7)
    | ((with_reducible refine gate_dst (N := 8) rfl ?_); refine box_event ?hg (N := 8) ?hd (cs := #[.slice Aw 0 cw]) (t := 22) ?hr ?_; (case hd => rfl); (case hg => rfl); (case hr => first | (go_simp; done) | (go_simp; rfl)); intro g8 h8 w8 hb8 hl8; have L8 := Aside0.mk (below_step L7.out hl8); have B68 := Aside0.mk (blk_below B67.out hl8); have B88 := Aside0.mk hb8; clear hb8 hl8 h8)
    | ((with_reducible refine gate_dst (N := 9) rfl ?_); refine box_event ?hg (N := 9) ?hd (cs := #[.func (.func 138) #[] #[.pointer (some ⟨go, 0, none⟩)]]) (t := 129) ?hr ?_; (case hd => rfl); (case hg => rfl); (case hr => first | (go_simp; done) | (go_simp; rfl)); intro g9 h9 w9 hb9 hl9; have L9 := Aside0.mk (below_step L8.out hl9); have B69 := Aside0.mk (blk_below B68.out hl9); have B99 := Aside0.mk hb9; have x8 := (blk_cell (blk_below B88.out hl9) 0).trans rfl; clear hb9 hl9 h9))
  clear x8
  refine start_ (n := 4) (S := fun w' => w'.cell? ⟨g9, 0, none⟩ = some (.func (.func 138) #[] #[.pointer (some ⟨go, 0, none⟩)]) ∧ w'.cell? ⟨g6, 0, none⟩ = some (.slice At inner.length ct) ∧ w'.cell? ⟨g6, 1, none⟩ = some (.slice (some ⟨gR, 0, none⟩) outer.length outer.length)) (ds := [3]) #[false, false, false, false] (by kernel_rfl) rfl rfl (⟨(blk_cell B99.out 0).trans rfl, (blk_cell B69.out 0).trans rfl, (blk_cell B69.out 1).trans rfl⟩) (fun hHeld => ?_); refine with_tabW impl_tableaux.tab137_2 impl_tableaux.bits137_2 (fun HT_ HW_ => ?_)
  have LA := Aside0.mk (show Below w.heap.size w w9.drew from L9.out.drew)
  have BA6 := Aside0.mk (blk_drew B69.out)
  have BA9 := Aside0.mk (blk_drew B99.out)
  generalize w9.drew = wa at LA BA6 BA9 hHeld ⊢
  refine take_ (i := 0) (N := some 14) (v := ?_) (a' := ?_) #[true, false, false, false] rfl rfl (take_ofW HT_.out HW_.out (by kernel_rfl)) (fun _ _ _ h => h) (Or.inl ⟨by rfl, ?_⟩) hHeld ?_ ?_
  rotate_left
  · rintro w' ⟨s0, s1, s2⟩
    go_simp
    with_reducible rfl
  rotate_left
  · simp only [Act.put, List.setIfInBounds_toArray, List.set_cons_zero, List.set_cons_succ, i64_w, i32_w]
    rfl
  refine take_ (i := 1) (N := some 15) (v := ?_) (a' := ?_) #[true, true, false, false] rfl rfl (take_ofW HT_.out HW_.out (by kernel_rfl)) (fun _ _ _ h => h) (Or.inl ⟨by rfl, ?_⟩) hHeld ?_ ?_
  rotate_left
  · rintro w' ⟨s0, s1, s2⟩
    go_simp
    with_reducible rfl
  rotate_left
  · simp only [Act.put, List.setIfInBounds_toArray, List.set_cons_zero, List.set_cons_succ, i64_w, i32_w]
    rfl
  have HSTA := Aside0.mk (HST.out.below LA.out)
  refine one_ (i := 2) (N := some 16) #[true, true, true, false] rfl rfl (one_of HT_.out (by kernel_rfl)) (by decide) (fun K hK => ?_)
  refine goes_ Tryd.func159 (by kernel_rfl) rfl #[.agg #[.slice At inner.length ct, .slice (some ⟨gR, 0, none⟩) outer.length outer.length]] (by rfl) rfl rfl (by (try simp only [List.map_toArray, List.map_cons, List.map_nil]); rfl) ?_
  have hown := impl_Tableau_own.calls (rows.length + 1) At ct inner (some ⟨gR, 0, none⟩) outer.length rows inner rows wa (HAt.out _ (Kept.of_below LA.out _)) hct (HSTA.out.rowsAt.reads (by rw [HRL.out]; omega)) (by rw [HRL.out]; exact Nat.le_refl _) (impl_grow.own_eq inner rows hli (by rw [HRL.out]; exact hlo) (fun r hr => by have := HRS.out r hr; omega))
  rw [HRL.out] at hown
  refine hown.mono ?_
  rintro e wb ⟨v0, v1, rfl, hR0, hS1, hb⟩
  have HR0 := Aside0.mk hR0
  have HR1 := Aside0.mk (Kd.R_mono (Kd.S_R hS1) (fun _ _ => trivial))
  have HBB := Aside0.mk hb
  clear hR0 hS1 hb hown
  refine ⟨_, rfl, ?_⟩
  refine hK.out _ _ ⟨(blk_cell (blk_below BA9.out HBB.out) 0).trans rfl, (blk_cell (blk_below BA6.out HBB.out) 0).trans rfl, (blk_cell (blk_below BA6.out HBB.out) 1).trans rfl⟩ (fun hHeld => ?_)
  clear hK K
  refine norm_ (a' := ?_) ?_ ?_
  rotate_left
  · show Act.put _ (some 16) _ = _
    simp only [Act.put, List.setIfInBounds_toArray, List.set_cons_zero, List.set_cons_succ, i64_w, i32_w]
    rfl
  obtain ⟨v, hv, hS⟩ := HSTA.out.out
  have hcall := impl_tableaux_1.calls B wa.heap.size go O v v0 v1 ts ⟨inner, rows⟩ wb (blk_below hv HBB.out) (blk_lt hv) HSTA.out.hB HBB.out.size HSTA.out.goO (Kd.S_mono (Kd.S_below hS HBB.out) (fun k hk => ⟨hk, HSTA.out.lt k (.inr hk)⟩)) (by have := HTS.out; omega) HR0.out HR1.out
  have HCALL := Aside0.mk hcall
  have HGO := Aside0.mk (blk_lt hv)
  clear hv hS hcall
  have he := enters_ (P := Tryd.prog) (f := 138) Tryd.func138 (by kernel_rfl) rfl
  refine last_ (i := 3) (N := some 17) #[true, true, true, true] rfl rfl (one_of HT_.out (by kernel_rfl)) (by decide) (fun K hK => ?_)
  refine call_ 138 #[.agg #[v0, v1], .pointer (some ⟨go, 0, none⟩)] (by rfl) rfl ?_ ?_
  · go_simp
  refine HCALL.out.mono ?_
  rintro e w' ⟨rfl, v', hv', hS', hk', hb'⟩
  refine ⟨_, rfl, ?_⟩
  refine hK.out _ _ ?_
  clear hK K he
  refine done_ (done_of HT_.out (by kernel_rfl)) ?_
  go_wp2
  refine bodyPost_ret (results_none rfl _ _ _) rfl ?_
  have hB : B ≤ w.heap.size := by have h1 := HST.out.rowsAt.2.1; have h2 := HST.out.rowsAt.lt; omega
  have hkb : Kept w wb (impl_grow.Mg go T O) := (Kept.of_below LA.out _).below HBB.out
  have hstb := HSTA.out.below HBB.out
  refine ⟨rfl, T, fun k => ((O k ∨ wa.heap.size ≤ k) ∧ k ≠ go) ∧ k < w'.heap.size, ⟨hstb.rowsAt.kept hk' ?_, ⟨v', hv', Kd.S_mono (Kd.S_bound hS') (fun k hk => ⟨hk.1, hk.2.2.1⟩)⟩, ?_, HST.out.goT, fun h => h.1.2 rfl, HST.out.hB, ?_, ?_⟩, hkb.then_ hk' (fun k hk => .inl (.inr hk)), ?_, ((LA.out.mono hB).trans (HBB.out.mono (Nat.le_trans hB LA.out.size))).trans hb'⟩
  · rintro k hT (hO | rfl)
    · exact HST.out.dis k hT hO
    · exact HST.out.goT hT
  · rintro k hT ⟨⟨hO | hO, _⟩, _⟩
    · exact HST.out.dis k hT hO
    · have := HSTA.out.lt k (.inl hT); omega
  · rintro k (hT | hO)
    · exact Nat.lt_of_lt_of_le (hstb.lt k (.inl hT)) hk'.1
    · exact hO.2
  · intro u hu
    rw [hv'] at hu
    obtain rfl : v' = u := by simpa using hu
    exact impl_grow.S_some hS' (by simp)
  · rintro k (hT | hO | hg)
    · exact .inl (.inl hT)
    · rcases hO.1.1 with h | h
      · exact .inl (.inr (.inl h))
      · exact .inr (Nat.le_trans LA.out.size h)
    · exact .inl (.inr (.inr hg))
set_option maxHeartbeats 4000000 in
set_option maxRecDepth 100000 in
theorem impl_grow.cons_ok (B go gR : Nat) (outer inner : List Int) (Ao Ai At : Option Addr) (co ci ct : Nat) (hco : outer.length ≤ co) (hci : inner.length ≤ ci) (hct : inner.length ≤ ct)
    (hbo : ∀ x ∈ outer, 0 ≤ x ∧ x ≤ 9) (hbi : ∀ x ∈ inner, 0 ≤ x ∧ x ≤ 9) (hlo : outer.length ≤ 1000) (hli : inner.length ≤ 1000) (w0 : Int) (hw0 : 0 ≤ w0) (ws : List Int) (ih : impl_grow.Ok B go gR outer inner Ao Ai At co ci ct ws) : impl_grow.Ok B go gR outer inner Ao Ai At co ci ct (w0 :: ws) := by
  intro k rows ts T O w Aw cw hst hrl hrs hk0 hk1 hts hAo hAi hAt hAw hcw
  have hu38 := Tryd.underlying38
  have hu56 := Tryd.underlying56
  have HPUT := Aside0.mk (fun Aw' => impl_grow.put_calls B go gR outer inner Ao Ai At co ci ct hco hci hct hbo hbi hlo hli w0 ws k hk0 (by simp only [List.length_cons] at hk1; omega) cw Aw' (by simpa using hcw) ih)
  have HST := Aside0.mk hst
  have HAo := Aside0.mk hAo
  have HAi := Aside0.mk hAi
  have HAt := Aside0.mk hAt
  have HAw := Aside0.mk hAw
  have HRS := Aside0.mk hrs
  have HTS := Aside0.mk hts
  have HRL := Aside0.mk hrl
  have HBO := Aside0.mk (And.intro hbo hbi)
  clear hst hAo hAi hAt hAw hrs hts hrl hbo hbi ih
  simp only [List.length_cons] at hk1 hcw ⊢
  obtain ⟨adw, eaw, hxw⟩ := Kd.at_int (HAw.out w (Kept.refl _ _)) 0 (by omega) (by simp only [List.length_cons]; omega)
  cases eaw
  have HXW := Aside0.mk (show w.cell? adw = some (.int .i64 w0) from by simpa [Addr.add, rd] using hxw)
  clear hxw
  go_enter Tryd.func137, Tryd.ntmps137
  go_wp2_with (first
    | ((with_reducible refine gate_dst (N := 5) rfl ?_); refine box_event ?hg (N := 5) ?hd (cs := #[.slice Ao outer.length co, .slice Ai inner.length ci]) (t := 38) ?hr ?_; (case hd => rfl); (case hg => rfl); (case hr => first | (go_simp; done) | (go_simp; rfl)); intro g5 h5 w5 hb5 hl5; have L5 := Aside0.mk hl5; have B5 := Aside0.mk hb5; have G5 := Aside0.mk (Nat.le_of_eq h5.symm); clear hb5 hl5 h5)
    | ((with_reducible refine gate_dst (N := 6) rfl ?_); refine box_event ?hg (N := 6) ?hd (cs := #[.slice At inner.length ct, .slice (some ⟨gR, 0, none⟩) outer.length outer.length]) (t := 56) ?hr ?_; (case hd => rfl); (case hg => rfl); (case hr => first | (go_simp; done) | (go_simp; rfl)); intro g6 h6 w6 hb6 hl6; have B6 := Aside0.mk hb6; have L6 := Aside0.mk (below_step L5.out hl6); have G6 := Aside0.mk (show w.heap.size ≤ g6 by rw [h6]; exact L5.out.size); have P6 := Aside0.mk hl6; clear hb6 hl6 h6)
    | ((with_reducible refine gate_dst (N := 7) rfl ?_); refine box_event ?hg (N := 7) ?hd (cs := #[.int .i64 k]) (t := 3) ?hr ?_; (case hd => rfl); (case hg => rfl); (case hr => first | (go_simp; done) | (go_simp; rfl)); intro g7 h7 w7 hb7 hl7; have L7 := Aside0.mk (below_step L6.out hl7); have B67 := Aside0.mk (blk_below B6.out hl7); have G7 := Aside0.mk (show w.heap.size ≤ g7 by rw [h7]; exact L6.out.size); have P7 := Aside0.mk hl7; have B7 := Aside0.mk hb7; clear hb7 hl7 h7)
    | ((with_reducible refine gate_dst (N := 8) rfl ?_); refine box_event ?hg (N := 8) ?hd (cs := #[.slice (some adw) (ws.length + 1) cw]) (t := 22) ?hr ?_; (case hd => rfl); (case hg => rfl); (case hr => first | (go_simp; done) | (go_simp; rfl)); intro g8 h8 w8 hb8 hl8; have L8 := Aside0.mk (below_step L7.out hl8); have B68 := Aside0.mk (blk_below B67.out hl8); have B88 := Aside0.mk hb8; have G8 := Aside0.mk (show w.heap.size ≤ g8 by rw [h8]; exact L7.out.size); have P8 := Aside0.mk hl8; clear hb8 hl8 h8)
    | ((with_reducible refine gate_dst (N := 9) rfl ?_); refine box_event ?hg (N := 9) ?hd (cs := #[.func (.func 138) #[] #[.pointer (some ⟨go, 0, none⟩)]]) (t := 129) ?hr ?_; (case hd => rfl); (case hg => rfl); (case hr => first | (go_simp; done) | (go_simp; rfl)); intro g9 h9 w9 hb9 hl9; have L9 := Aside0.mk (below_step L8.out hl9); have B69 := Aside0.mk (blk_below B68.out hl9); have B99 := Aside0.mk hb9; have x8 := (blk_cell (blk_below B88.out hl9) 0).trans rfl; have G9 := Aside0.mk (show w.heap.size ≤ g9 by rw [h9]; exact L8.out.size); have P9 := Aside0.mk hl9; clear hb9 hl9 h9)
    | ((with_reducible refine gate_dst (N := 10) rfl ?_); refine box_event ?hg (N := 10) ?hd (cs := #[Value.nilFunc]) (t := 149) ?hr ?_; (case hd => rfl); (case hg => rfl); (case hr => first | (go_simp; done) | (go_simp; rfl)); intro g10 h10 w10 hb10 hl10; have LB := Aside0.mk hl10; have B1010 := Aside0.mk hb10; have G10 := Aside0.mk (show w.heap.size ≤ g10 by rw [h10]; exact L9.out.size); have N10 := Aside0.mk h10; have x10 := (blk_cell hb10 0).trans rfl; have f10 := blk_frozen hb10 0; clear x8 hb10 hl10 h10))
  try clear x10
  try clear f10
  have HLC := Aside0.mk (show Below w.heap.size w w10 from below_step L9.out LB.out)
  have HLD := Aside0.mk (show Below w.heap.size w (w10.setCell ⟨g10, 0, none⟩ (.func (.func 160) #[] #[.pointer (some ⟨g5, 0, none⟩), .pointer (some ⟨g6, 0, none⟩), .pointer (some ⟨g7, 0, none⟩), .pointer (some ⟨g8, 0, none⟩), .pointer (some ⟨g9, 0, none⟩), .pointer (some ⟨g10, 0, none⟩)])) from HLC.out.setCell G10.out _)
  have HP := Aside0.mk (one_setCell (u := (.func (.func 160) #[] #[.pointer (some ⟨g5, 0, none⟩), .pointer (some ⟨g6, 0, none⟩), .pointer (some ⟨g7, 0, none⟩), .pointer (some ⟨g8, 0, none⟩), .pointer (some ⟨g9, 0, none⟩), .pointer (some ⟨g10, 0, none⟩)])) B1010.out)
  have hlt : ∀ {g : Nat}, w.heap.size ≤ g → ¬ impl_grow.Mg go T O g := fun hg hm => by have := HST.out.mlt _ hm; omega
  have HBX := Aside0.mk (show impl_grow.Boxes (w10.setCell ⟨g10, 0, none⟩ (.func (.func 160) #[] #[.pointer (some ⟨g5, 0, none⟩), .pointer (some ⟨g6, 0, none⟩), .pointer (some ⟨g7, 0, none⟩), .pointer (some ⟨g8, 0, none⟩), .pointer (some ⟨g9, 0, none⟩), .pointer (some ⟨g10, 0, none⟩)])) (impl_grow.Mg go T O) go gR outer inner Ao Ai At co ci ct k (some adw) (ws.length + 1) cw g5 g6 g7 g8 g9 g10 from by
    have b5 := blk_below (blk_below (blk_below (blk_below B5.out P6.out) P7.out) P8.out) P9.out
    have b6 := blk_below (blk_below (blk_below B6.out P7.out) P8.out) P9.out
    have b7 := blk_below (blk_below B7.out P8.out) P9.out
    have b8 := blk_below B88.out P9.out
    have b9 := B99.out
    have ne : ∀ {g : Nat} {o : Obj}, w9.heap[g]? = some o → g ≠ g10 := fun h e => by have := blk_lt h; rw [e, N10.out] at this; omega
    exact ⟨blk_far (blk_below b5 LB.out) (ne b5) _, blk_far (blk_below b6 LB.out) (ne b6) _, blk_far (blk_below b7 LB.out) (ne b7) _, blk_far (blk_below b8 LB.out) (ne b8) _, blk_far (blk_below b9 LB.out) (ne b9) _, HP.out, hlt G5.out, hlt G6.out, hlt G7.out, hlt G8.out, hlt G9.out, hlt G10.out⟩)
  clear hlt
  have HST2 := Aside0.mk (HST.out.below HLD.out)
  have HXW2 := Aside0.mk ((HLD.out.cell (World.block_lt_of_cell? w _ HXW.out)).trans HXW.out)
  have HK2 := Aside0.mk (Kept.of_below HLD.out (impl_grow.Mg go T O))
  generalize w10.setCell ⟨g10, 0, none⟩ (.func (.func 160) #[] #[.pointer (some ⟨g5, 0, none⟩), .pointer (some ⟨g6, 0, none⟩), .pointer (some ⟨g7, 0, none⟩), .pointer (some ⟨g8, 0, none⟩), .pointer (some ⟨g9, 0, none⟩), .pointer (some ⟨g10, 0, none⟩)]) = w11 at HLD HBX HST2 HXW2 HK2 ⊢
  refine start_ (n := 5) (S := fun w' => w'.cell? ⟨g10, 0, none⟩ = some (.func (.func 160) #[] #[.pointer (some ⟨g5, 0, none⟩), .pointer (some ⟨g6, 0, none⟩), .pointer (some ⟨g7, 0, none⟩), .pointer (some ⟨g8, 0, none⟩), .pointer (some ⟨g9, 0, none⟩), .pointer (some ⟨g10, 0, none⟩)]) ∧ w'.cell? ⟨g8, 0, none⟩ = some (.slice (some adw) (ws.length + 1) cw) ∧ w'.cell? adw = some (.int .i64 w0)) (ds := [4]) #[false, false, false, false, false] (by kernel_rfl) rfl rfl (⟨(blk_cell HBX.out.hp 0).trans rfl, (blk_cell HBX.out.hw 0).trans rfl, HXW2.out⟩) (fun hHeld => ?_); refine with_tabW impl_tableaux.tab137_5 impl_tableaux.bits137_5 (fun HT_ HW_ => ?_)
  have HB12 := Aside0.mk (show Below w11.heap.size w11 w11.drew from (Below.refl _ _).drew)
  generalize w11.drew = w12 at HB12 hHeld ⊢
  have hz0 : (0 : Int) < ((ws.length + 1 : Nat) : Int) := by omega
  refine take_ (i := 0) (N := some 19) (v := ?_) (a' := ?_) #[true, false, false, false, false] rfl rfl (take_ofW HT_.out HW_.out (by kernel_rfl)) (fun _ _ _ h => h) (Or.inl ⟨by rfl, ?_⟩) hHeld ?_ ?_
  rotate_left
  · rintro w' ⟨s0, s1, s2⟩
    go_simp
    with_reducible rfl
  rotate_left
  · simp only [Act.put, List.setIfInBounds_toArray, List.set_cons_zero, List.set_cons_succ, i64_w, i32_w]
    rfl
  refine take_ (i := 1) (N := some 20) (v := ?_) (a' := ?_) #[true, true, false, false, false] rfl rfl (take_ofW HT_.out HW_.out (by kernel_rfl)) (fun _ _ _ h => h) (Or.inl ⟨by rfl, ?_⟩) hHeld ?_ ?_
  rotate_left
  · rintro w' ⟨s0, s1, s2⟩
    go_simp
    with_reducible rfl
  rotate_left
  · simp only [Act.put, List.setIfInBounds_toArray, List.set_cons_zero, List.set_cons_succ, i64_w, i32_w]
    rfl
  refine pure_ (i := 2) (N := some 21) (v := ?_) (a' := ?_) #[true, true, true, false, false] rfl rfl (any_of HT_.out (by kernel_rfl)) (fun _ _ _ h => h) (Or.inl ⟨by rfl, ?_⟩) ?_ ?_
  rotate_left
  · intro w'
    go_simp
    with_reducible rfl
  rotate_left
  · simp only [Act.put, List.setIfInBounds_toArray, List.set_cons_zero, List.set_cons_succ, i64_w, i32_w]
    rfl
  refine take_ (i := 3) (N := some 22) (v := ?_) (a' := ?_) #[true, true, true, true, false] rfl rfl (take_ofW HT_.out HW_.out (by kernel_rfl)) (fun _ _ _ h => h) (Or.inl ⟨by rfl, ?_⟩) hHeld ?_ ?_
  rotate_left
  · rintro w' ⟨s0, s1, s2⟩
    go_simp
    with_reducible rfl
  rotate_left
  · simp only [Act.put, List.setIfInBounds_toArray, List.set_cons_zero, List.set_cons_succ, i64_w, i32_w]
    rfl
  clear hz0
  have he := enters_ (P := Tryd.prog) (f := 160) Tryd.func160 (by kernel_rfl) rfl
  have ew : ((w0.toNat : Nat) : Int) = w0 := Int.toNat_of_nonneg hw0
  have HK3 := Aside0.mk (HK2.out.below HB12.out)
  have hcall := HPUT.out (some adw) g5 g6 g7 g8 g9 g10 w0.toNat 0 rows ts T O w12 (HST2.out.below HB12.out) HRL.out (Nat.zero_le _) (fun r hr => by have h := HRS.out r hr; simp only [impl_grow.total, List.map_cons, List.sum_cons] at h ⊢; omega) (by have h := HTS.out; simpa only [Gr.growL] using h)
    (HAo.out.to HK3.out (fun _ h => .inl h)) (HAi.out.to HK3.out (fun _ h => .inl h)) (HAt.out.to HK3.out (fun _ h => .inl h)) (HAw.out.to HK3.out (fun _ h => .inl h)) (HBX.out.to (Kept.of_below HB12.out _) (fun _ h => .inl h))
  rw [ew] at hcall
  have HCALL := Aside0.mk hcall
  clear hcall ew
  refine last_ (i := 4) (N := some 23) #[true, true, true, true, true] rfl rfl (one_of HT_.out (by kernel_rfl)) (by decide) (fun K hK => ?_)
  refine call_ 160 #[.int .i64 0, .int .i64 w0, .pointer (some ⟨g5, 0, none⟩), .pointer (some ⟨g6, 0, none⟩), .pointer (some ⟨g7, 0, none⟩), .pointer (some ⟨g8, 0, none⟩), .pointer (some ⟨g9, 0, none⟩), .pointer (some ⟨g10, 0, none⟩)] (by rfl) rfl ?_ ?_
  · go_simp
  refine HCALL.out.mono ?_
  rintro e w' ⟨rfl, hD⟩
  refine ⟨_, rfl, ?_⟩
  refine hK.out _ _ ?_
  clear hK K he
  refine done_ (done_of HT_.out (by kernel_rfl)) ?_
  go_wp2
  refine bodyPost_end (results_none rfl _ _ _) rfl ?_
  have hB : B ≤ w.heap.size := by have h1 := HST.out.rowsAt.2.1; have h2 := HST.out.rowsAt.lt; omega
  exact ⟨rfl, impl_grow.Done.from_ HK3.out (fun _ h => .inl h) ((HLD.out.mono hB).trans (HB12.out.mono (Nat.le_trans hB HLD.out.size))) (by simpa only [Gr.growL] using hD)⟩
theorem impl_grow.ok (B go gR : Nat) (outer inner : List Int) (Ao Ai At : Option Addr) (co ci ct : Nat) (hco : outer.length ≤ co) (hci : inner.length ≤ ci) (hct : inner.length ≤ ct)
    (hbo : ∀ x ∈ outer, 0 ≤ x ∧ x ≤ 9) (hbi : ∀ x ∈ inner, 0 ≤ x ∧ x ≤ 9) (hlo : outer.length ≤ 1000) (hli : inner.length ≤ 1000) : ∀ ws : List Int, (∀ x ∈ ws, 0 ≤ x) → impl_grow.Ok B go gR outer inner Ao Ai At co ci ct ws
  | [], _ => impl_grow.nil_ok B go gR outer inner Ao Ai At co ci ct hct hlo hli
  | w0 :: ws, h => impl_grow.cons_ok B go gR outer inner Ao Ai At co ci ct hco hci hct hbo hbi hlo hli w0 (h w0 (List.mem_cons_self)) ws (impl_grow.ok B go gR outer inner Ao Ai At co ci ct hco hci hct hbo hbi hlo hli ws (fun x hx => h x (List.mem_cons_of_mem _ hx)))
def impl_tableaux.T140_1 : Bool × List (List Nat × List Nat) := (true, [([], []), ([0], [0]), ([], []), ([2, 1], [2]), ([1, 3, 3], [1, 3]), ([4, 4, 0, 1, 2, 3, 4], [4])])
def impl_tableaux.B140_1 : List Nat := [0, 1, 0, 7, 15, 31]
theorem impl_tableaux.tab140_1 : rtab .any (opsOf Tryd.f140 1) = impl_tableaux.T140_1 := by kernel_rfl
theorem impl_tableaux.bits140_1 : waitsOk impl_tableaux.T140_1.2 impl_tableaux.B140_1 = true := by kernel_rfl
set_option maxHeartbeats 4000000 in
set_option maxRecDepth 100000 in
theorem impl_tableaux_2.calls (k : Nat) (A0 : Option Addr) (c0 : Nat) (l0 : List Int) (A1 : Option Addr) (c1 : Nat) (l1 : List (List Int)) (D0 : Option Addr) (d0 : Nat) (m0 : List Int) (D1 : Option Addr) (d1 : Nat) (m1 : List (List Int)) (ta tb : ByteArray) (r : Int) (w : World)
    (h0 : Kd.C (Kd.int .i64) w A0 l0.length l0) (hc0 : l0.length ≤ c0) (h1 : Kd.C (Kd.slice 3 (Kd.int .i64)) w A1 l1.length l1) (hc1 : l1.length ≤ c1)
    (g0 : Kd.C (Kd.int .i64) w D0 m0.length m0) (hd0 : m0.length ≤ d0) (g1 : Kd.C (Kd.slice 3 (Kd.int .i64)) w D1 m1.length m1) (hd1 : m1.length ≤ d1)
    (ha : impl_TableauText.f k l0 l1 = some ta) (hb : impl_TableauText.f k m0 m1 = some tb) (hr : strings_Compare.f ta tb = some r) :
    Calls Tryd.prog 140 #[.agg #[.slice A0 l0.length c0, .slice A1 l1.length c1], .agg #[.slice D0 m0.length d0, .slice D1 m1.length d1]] w fun e w' => e = .returned (.int .i64 r) ∧ Below w.heap.size w w' := by
  have hu56 := Tryd.underlying56
  have H0 := Aside0.mk h0
  have H1 := Aside0.mk h1
  have G0 := Aside0.mk g0
  have G1 := Aside0.mk g1
  have HC := Aside0.mk (And.intro hc0 (And.intro hc1 (And.intro hd0 hd1)))
  have HT := Aside0.mk (And.intro ha (And.intro hb hr))
  clear h0 h1 g0 g1 hc0 hc1 hd0 hd1 ha hb hr
  go_enter Tryd.func140, Tryd.ntmps140
  go_wp2_with (first
    | ((with_reducible refine gate_dst (N := 2) rfl ?_); refine box_event ?hg (N := 2) ?hd (cs := #[.slice A0 l0.length c0, .slice A1 l1.length c1]) (t := 56) ?hr ?_; (case hd => rfl); (case hg => rfl); (case hr => first | (go_simp; done) | (go_simp; rfl)); intro p2 h2 w2 hb2 hl2; have B2 := Aside0.mk hb2; have L2 := Aside0.mk hl2; clear hb2 hl2 h2)
    | ((with_reducible refine gate_dst (N := 3) rfl ?_); refine box_event ?hg (N := 3) ?hd (cs := #[.slice D0 m0.length d0, .slice D1 m1.length d1]) (t := 56) ?hr ?_; (case hd => rfl); (case hg => rfl); (case hr => first | (go_simp; done) | (go_simp; rfl)); intro p3 h3 w3 hb3 hl3; have B3 := Aside0.mk hb3; have B23 := Aside0.mk (blk_below B2.out hl3); have L3 := Aside0.mk (below_step L2.out hl3); clear hb3 hl3 h3))
  refine start_ (n := 6) (S := fun w' => w'.cell? ⟨p2, 0, none⟩ = some (.slice A0 l0.length c0) ∧ w'.cell? ⟨p2, 1, none⟩ = some (.slice A1 l1.length c1) ∧ w'.cell? ⟨p3, 0, none⟩ = some (.slice D0 m0.length d0) ∧ w'.cell? ⟨p3, 1, none⟩ = some (.slice D1 m1.length d1)) (ds := []) #[false, false, false, false, false, false] (by kernel_rfl) rfl rfl (⟨(blk_cell B23.out 0).trans rfl, (blk_cell B23.out 1).trans rfl, (blk_cell B3.out 0).trans rfl, (blk_cell B3.out 1).trans rfl⟩) (fun hHeld => ?_); refine with_tabW impl_tableaux.tab140_1 impl_tableaux.bits140_1 (fun HT_ HW_ => ?_)
  have LA := Aside0.mk (show Below w.heap.size w w3.drew from L3.out.drew)
  have BA2 := Aside0.mk (blk_drew B23.out)
  have BA3 := Aside0.mk (blk_drew B3.out)
  generalize w3.drew = wa at LA BA2 BA3 hHeld ⊢
  refine take_ (i := 0) (N := some 5) (v := ?_) (a' := ?_) #[true, false, false, false, false, false] rfl rfl (take_ofW HT_.out HW_.out (by kernel_rfl)) (fun _ _ _ h => h) (Or.inl ⟨by rfl, ?_⟩) hHeld ?_ ?_
  rotate_left
  · rintro w' ⟨s0, s1, s2, s3⟩
    go_simp
    with_reducible rfl
  rotate_left
  · simp only [Act.put, List.setIfInBounds_toArray, List.set_cons_zero, List.set_cons_succ, i64_w, i32_w]
    rfl
  refine take_ (i := 2) (N := some 7) (v := ?_) (a' := ?_) #[true, false, true, false, false, false] rfl rfl (take_ofW HT_.out HW_.out (by kernel_rfl)) (fun _ _ _ h => h) (Or.inl ⟨by rfl, ?_⟩) hHeld ?_ ?_
  rotate_left
  · rintro w' ⟨s0, s1, s2, s3⟩
    go_simp
    with_reducible rfl
  rotate_left
  · simp only [Act.put, List.setIfInBounds_toArray, List.set_cons_zero, List.set_cons_succ, i64_w, i32_w]
    rfl
  refine one_ (i := 1) (N := some 6) #[true, true, true, false, false, false] rfl rfl (one_of HT_.out (by kernel_rfl)) (by decide) (fun K hK => ?_)
  refine goes_ Tryd.func55 (by kernel_rfl) rfl #[.agg #[.slice A0 l0.length c0, .slice A1 l1.length c1]] (by rfl) rfl rfl (by (try simp only [List.map_toArray, List.map_cons, List.map_nil]); rfl) ?_
  refine (impl_TableauText.calls k A0 c0 l0 A1 c1 l1 ta wa (Kd.C_below H0.out LA.out) HC.out.1 (Kd.C_below H1.out LA.out) HC.out.2.1 HT.out.1).mono ?_
  rintro e wb ⟨rfl, hbb⟩
  have LB := Aside0.mk (below_step LA.out hbb)
  have BB2 := Aside0.mk (blk_below BA2.out hbb)
  have BB3 := Aside0.mk (blk_below BA3.out hbb)
  clear hbb
  refine ⟨_, rfl, ?_⟩
  refine hK.out _ _ ⟨(blk_cell BB2.out 0).trans rfl, (blk_cell BB2.out 1).trans rfl, (blk_cell BB3.out 0).trans rfl, (blk_cell BB3.out 1).trans rfl⟩ (fun hHeld => ?_)
  clear hK K
  refine norm_ (a' := ?_) ?_ ?_
  rotate_left
  · show Act.put _ (some 6) _ = _
    simp only [Act.put, List.setIfInBounds_toArray, List.set_cons_zero, List.set_cons_succ, i64_w, i32_w]
    rfl
  refine one_ (i := 3) (N := some 8) #[true, true, true, true, false, false] rfl rfl (one_of HT_.out (by kernel_rfl)) (by decide) (fun K hK => ?_)
  refine goes_ Tryd.func55 (by kernel_rfl) rfl #[.agg #[.slice D0 m0.length d0, .slice D1 m1.length d1]] (by rfl) rfl rfl (by (try simp only [List.map_toArray, List.map_cons, List.map_nil]); rfl) ?_
  refine (impl_TableauText.calls k D0 d0 m0 D1 d1 m1 tb wb (Kd.C_below G0.out LB.out) HC.out.2.2.1 (Kd.C_below G1.out LB.out) HC.out.2.2.2 HT.out.2.1).mono ?_
  rintro e wc ⟨rfl, hbc⟩
  have LC := Aside0.mk (below_step LB.out hbc)
  have BC2 := Aside0.mk (blk_below BB2.out hbc)
  have BC3 := Aside0.mk (blk_below BB3.out hbc)
  clear hbc
  refine ⟨_, rfl, ?_⟩
  refine hK.out _ _ ⟨(blk_cell BC2.out 0).trans rfl, (blk_cell BC2.out 1).trans rfl, (blk_cell BC3.out 0).trans rfl, (blk_cell BC3.out 1).trans rfl⟩ (fun hHeld => ?_)
  clear hK K
  refine norm_ (a' := ?_) ?_ ?_
  rotate_left
  · show Act.put _ (some 8) _ = _
    simp only [Act.put, List.setIfInBounds_toArray, List.set_cons_zero, List.set_cons_succ, i64_w, i32_w]
    rfl
  have hH0 := hHeld
  refine one_ (i := 4) (N := some 9) #[true, true, true, true, true, false] rfl rfl (one_of HT_.out (by kernel_rfl)) (by decide) (fun K hK => ?_)
  refine goes_ Tryd.func141 (by kernel_rfl) rfl #[.string ta, .string tb] (by rfl) rfl rfl (by (try simp only [List.map_toArray, List.map_cons, List.map_nil]); rfl) ?_
  refine (strings_Compare.calls ta tb r wc HT.out.2.2).mono ?_
  rintro e wd ⟨rfl, ⟨nd, rfl⟩⟩
  refine ⟨_, rfl, ?_⟩
  refine hK.out _ _ hH0 (fun hHeld => ?_)
  clear hK K
  refine norm_ (a' := ?_) ?_ ?_
  rotate_left
  · show Act.put _ (some 9) _ = _
    simp only [Act.put, List.setIfInBounds_toArray, List.set_cons_zero, List.set_cons_succ, i64_w, i32_w]
    rfl
  refine pure_ (i := 5) (N := some 4) (v := ?_) (a' := ?_) #[true, true, true, true, true, true] rfl rfl (any_of HT_.out (by kernel_rfl)) (fun _ _ _ h => h) (Or.inl ⟨by rfl, ?_⟩) ?_ ?_
  rotate_left
  · intro w'
    go_simp
    with_reducible rfl
  rotate_left
  · simp only [Act.put, List.setIfInBounds_toArray, List.set_cons_zero, List.set_cons_succ, i64_w, i32_w]
    rfl
  refine done_ (done_of HT_.out (by kernel_rfl)) ?_
  go_wp2
  go_ret
  exact ⟨rfl, pw_below_drewN LC.out _⟩
theorem strings_Compare.cb_refl : ∀ a : List UInt8, Go.Lib.compareBytes a a = 0
  | [] => rfl
  | x :: a => by simp [Go.Lib.compareBytes, cb_refl a]
theorem strings_Compare.cb_swap : ∀ a b : List UInt8, Go.Lib.compareBytes a b = - Go.Lib.compareBytes b a
  | [], [] => rfl
  | [], _ :: _ => rfl
  | _ :: _, [] => rfl
  | x :: a, y :: b => by
    simp only [Go.Lib.compareBytes, UInt8.lt_iff_toNat_lt]
    have h := cb_swap a b
    split <;> split <;> first | omega | exact h | rfl
theorem strings_Compare.cb_eq : ∀ a b : List UInt8, Go.Lib.compareBytes a b = 0 → a = b
  | [], [], _ => rfl
  | [], _ :: _, h => by simp [Go.Lib.compareBytes] at h
  | _ :: _, [], h => by simp [Go.Lib.compareBytes] at h
  | x :: a, y :: b, h => by
    simp only [Go.Lib.compareBytes, UInt8.lt_iff_toNat_lt] at h
    split at h
    · omega
    · split at h
      · omega
      · have e : x = y := UInt8.toNat_inj.1 (by omega)
        rw [e, cb_eq a b h]
theorem strings_Compare.cb_trans : ∀ a b c : List UInt8, Go.Lib.compareBytes a b ≤ 0 → Go.Lib.compareBytes b c ≤ 0 → Go.Lib.compareBytes a c ≤ 0
  | [], _, [], _, _ => by simp [Go.Lib.compareBytes]
  | [], _, _ :: _, _, _ => by simp [Go.Lib.compareBytes]
  | _ :: _, [], _, h, _ => by simp [Go.Lib.compareBytes] at h
  | _ :: _, _ :: _, [], _, h => by simp [Go.Lib.compareBytes] at h
  | x :: a, y :: b, z :: c, h1, h2 => by
    have ih := cb_trans a b c
    simp only [Go.Lib.compareBytes, UInt8.lt_iff_toNat_lt] at h1 h2 ⊢
    split at h1 <;> split at h2 <;> (try split at h1) <;> (try split at h2) <;> (try omega) <;> split <;> (try omega) <;> (try (rw [if_neg (by omega)]; exact ih h1 h2))
theorem impl_tableaux_2.grown {w w' : World} (hb : Below w.heap.size w w') (hd : w.drawn ≤ w'.drawn) : ∃ q os, w' = Go.Sort.grow (w.drewN q) os := by
  refine ⟨w'.drawn - w.drawn, w'.heap.extract w.heap.size w'.heap.size, ?_⟩
  have hh : w'.heap = w.heap ++ w'.heap.extract w.heap.size w'.heap.size := by
    apply Array.ext_getElem?
    intro i
    rw [Array.getElem?_append]
    split
    · rename_i h; exact hb.block i h
    · rename_i h
      by_cases h2 : i < w'.heap.size
      · rw [Array.getElem?_extract]
        have e : w.heap.size + (i - w.heap.size) = i := by omega
        rw [if_pos (by omega), e]
      · rw [Array.getElem?_eq_none (by omega), Array.getElem?_eq_none (by simp; omega)]
  obtain ⟨h1, h2, h3, h4, h5⟩ := hb
  cases w; cases w'
  simp only [Go.Sort.grow, World.drewN] at *
  simp only [World.mk.injEq]
  exact ⟨hh, h2, by omega, h1, h3⟩
open Go.Sort in
theorem impl_tableaux_2.heap_other {α : Type} [Inhabited α] (enc : α → List Value) (k : Nat) (w : World) (blk off m : Nat) (dk : Array α) (os : Array Obj) (j : Nat) (hj : j < w.heap.size) (hne : j ≠ blk) : (sortWorldK enc k w blk off m dk os).heap[j]? = w.heap[j]? := by
  show ((w.heap.modify blk _) ++ os)[j]? = _
  rw [Array.getElem?_append, if_pos (by rw [Array.size_modify]; exact hj), Array.getElem?_modify, if_neg (Ne.symm hne)]
structure impl_tableaux_2.El (w : World) (g k B : Nat) (P : Nat → Prop) (f : Nat → Nat) where
  cs : List Value
  x : S56
  ix : Nat
  t : ByteArray
  hM : k56.M w B (fun k => (P k ∧ k ≠ g) ∧ f k = ix) x cs
  ht : impl_TableauText.f k x.f0 x.f1 = some t
theorem impl_tableaux_2.El.hK {w : World} {g k B : Nat} {P : Nat → Prop} {f : Nat → Nat} (a : impl_tableaux_2.El w g k B P f) (W : World) (hW : ∀ j, j < w.heap.size → j ≠ g → W.heap[j]? = w.heap[j]?) : k56.K W a.x a.cs :=
  k56.K_of_M (Kd.M_step a.hM (fun j hj hlt => hW j hlt hj.1.2))
theorem impl_tableaux_2.El.hl {w : World} {g k B : Nat} {P : Nat → Prop} {f : Nat → Nat} (a : impl_tableaux_2.El w g k B P f) : a.cs.length = 2 := k56.K_len (a.hK w (fun _ _ _ => rfl))
theorem impl_tableaux_2.El.h1 {w : World} {g k B : Nat} {P : Nat → Prop} {f : Nat → Nat} (a : impl_tableaux_2.El w g k B P f) : ∀ v ∈ a.cs, v.oneCell' = true := k56.K_one (a.hK w (fun _ _ _ => rfl))
def impl_tableaux_2.cf {w : World} {g k B : Nat} {P : Nat → Prop} {f : Nat → Nat} (a b : impl_tableaux_2.El w g k B P f) : Int := Go.Lib.compareBytes a.t.data.toList b.t.data.toList
open Go.Sort in
theorem impl_tableaux_2.lays (w : World) (g k B n : Nat) (P : Nat → Prop) (f : Nat → Nat) [Inhabited (impl_tableaux_2.El w g k B P f)] : CmpLays Tryd.prog 140 #[] (impl_tableaux_2.El.cs (w := w) (g := g) (k := k) (B := B) (P := P) (f := f)) 2 impl_tableaux_2.cf g 0 n w := by
  intro m os dk _ a b
  obtain ⟨A0, c0, A1, c1, ea, h1, h2, h3, h4⟩ := k56_open (a.hK _ (fun j hj hne => impl_tableaux_2.heap_other (impl_tableaux_2.El.cs (w := w) (g := g) (k := k) (B := B) (P := P) (f := f)) 2 w g 0 m dk os j hj hne))
  obtain ⟨D0, d0, D1, d1, eb, g1, g2, g3, g4⟩ := k56_open (b.hK _ (fun j hj hne => impl_tableaux_2.heap_other (impl_tableaux_2.El.cs (w := w) (g := g) (k := k) (B := B) (P := P) (f := f)) 2 w g 0 m dk os j hj hne))
  rw [ea, eb]
  have h := impl_tableaux_2.calls k A0 c0 a.x.f0 A1 c1 a.x.f1 D0 d0 b.x.f0 D1 d1 b.x.f1 a.t b.t (impl_tableaux_2.cf a b) _ h2 h1 h4 h3 g2 g1 g4 g3 a.ht b.ht rfl
  refine (Go.DrawnMono.calls_drawn h).mono ?_
  rintro e w' ⟨⟨rfl, hb⟩, hd⟩
  exact ⟨rfl, impl_tableaux_2.grown hb (hd ⟨_, rfl⟩)⟩
theorem impl_tableaux_2.els {w : World} {g k B cap : Nat} {P : Nat → Prop} {f : Nat → Nat} {ts : List S56} {inner : List Value}
    (hr : Reps ((Kd.tag f k56).M w B (fun k => P k ∧ some k ≠ (Value.slice (some ⟨g, 0, none⟩) ts.length cap).ownBlock)) 2 ts.zipIdx inner) (ht : ∀ x ∈ ts, ∃ t, impl_TableauText.f k x.f0 x.f1 = some t) :
    ∃ d : Array (impl_tableaux_2.El w g k B P f), d.size = ts.length ∧ ∀ (j : Nat) (h : j < d.size) (h2 : j < ts.length), d[j].x = ts[j] ∧ d[j].ix = j ∧ d[j].cs = (inner.drop (j * 2)).take 2 := by
  have key : ∀ j : Fin ts.length, ∃ e : impl_tableaux_2.El w g k B P f, e.x = ts[j] ∧ e.ix = j.1 ∧ e.cs = (inner.drop (j.1 * 2)).take 2 := by
    intro j
    obtain ⟨t, hj⟩ := ht ts[j] (List.getElem_mem j.2)
    have hm := hr.2 j.1 (ts[j], j.1) (Kd.zip_at (List.getElem?_eq_getElem j.2))
    exact ⟨⟨(inner.drop (j.1 * 2)).take 2, ts[j], j.1, t, k56.M_mono (fun q hq => ⟨⟨hq.1.1, fun e => hq.1.2 (by rw [e]; rfl)⟩, hq.2⟩) hm, hj⟩, rfl, rfl, rfl⟩
  refine ⟨Array.ofFn fun j : Fin ts.length => Classical.choose (key j), by simp, fun j h h2 => ?_⟩
  rw [Array.getElem_ofFn]
  exact Classical.choose_spec (key ⟨j, h2⟩)
theorem impl_tableaux_2.flat {w : World} {g k B : Nat} {P : Nat → Prop} {f : Nat → Nat} [Inhabited (impl_tableaux_2.El w g k B P f)] {ts : List S56} {inner : List Value} {d : Array (impl_tableaux_2.El w g k B P f)} (hs : d.size = ts.length) (hl : inner.length = ts.length * 2)
    (hd : ∀ (j : Nat) (h : j < d.size), d[j].cs = (inner.drop (j * 2)).take 2) : Go.Sort.flatK impl_tableaux_2.El.cs 2 d = inner.toArray := by
  refine Go.Sort.ext_get! (by simp [hs, hl]) fun t ht => ?_
  have ht' : t < d.size * 2 := by simpa using ht
  have hj : t / 2 < d.size := by omega
  rw [Go.Sort.get_flatK _ _ _ t ht', getElem!_pos d (t / 2) hj, hd _ hj]
  have hti : t < inner.length := by omega
  have e : t / 2 * 2 + t % 2 = t := by omega
  rw [getElem!_pos inner.toArray t (by simpa using hti), getElem!_pos ((inner.drop (t / 2 * 2)).take 2) (t % 2) (by rw [List.length_take, List.length_drop]; omega)]
  simp [List.getElem_take, List.getElem_drop, e]
open Go.Sort in
theorem impl_tableaux_2.swo {w : World} {g k B : Nat} {P : Nat → Prop} {f : Nat → Nat} : SWO (ltOf (impl_tableaux_2.cf (w := w) (g := g) (k := k) (B := B) (P := P) (f := f))) where
  irrefl := fun x => by simp [ltOf, impl_tableaux_2.cf, strings_Compare.cb_refl]
  trans := fun x y z h1 h2 => by
    replace h1 : Go.Lib.compareBytes x.t.data.toList y.t.data.toList < 0 := of_decide_eq_true h1
    replace h2 : Go.Lib.compareBytes y.t.data.toList z.t.data.toList < 0 := of_decide_eq_true h2
    refine decide_eq_true (p := Go.Lib.compareBytes x.t.data.toList z.t.data.toList < 0) ?_
    have h3 := strings_Compare.cb_trans _ _ _ (Int.le_of_lt h1) (Int.le_of_lt h2)
    rcases Int.lt_or_eq_of_le h3 with h | h
    · exact h
    · have e := strings_Compare.cb_eq _ _ h
      have h4 := strings_Compare.cb_swap x.t.data.toList y.t.data.toList
      rw [e] at h1 h4
      omega
  ntrans := fun x y z h1 h2 => by
    replace h1 : ¬ Go.Lib.compareBytes x.t.data.toList y.t.data.toList < 0 := of_decide_eq_false h1
    replace h2 : ¬ Go.Lib.compareBytes y.t.data.toList z.t.data.toList < 0 := of_decide_eq_false h2
    refine decide_eq_false (p := Go.Lib.compareBytes x.t.data.toList z.t.data.toList < 0) ?_
    have a := strings_Compare.cb_swap x.t.data.toList y.t.data.toList
    have b := strings_Compare.cb_swap y.t.data.toList z.t.data.toList
    have c := strings_Compare.cb_swap x.t.data.toList z.t.data.toList
    have h3 := strings_Compare.cb_trans z.t.data.toList y.t.data.toList x.t.data.toList (by omega) (by omega)
    omega
theorem impl_tableaux_2.holds {w : World} {g k B : Nat} {P : Nat → Prop} {f : Nat → Nat} [Inhabited (impl_tableaux_2.El w g k B P f)] {inner : List Value} {cur : Array Value} {t : TypeId} {d : Array (impl_tableaux_2.El w g k B P f)} (hf : Go.Sort.flatK impl_tableaux_2.El.cs 2 d = inner.toArray) (hl : inner.length = d.size * 2)
    (hh : w.heap[g]? = some (.cells cur t (0, 0))) (ht : cur.toList.take (d.size * 2) = inner) : Go.Sort.HoldsK impl_tableaux_2.El.cs 2 w g 0 d := by
  intro j hj
  rw [hf] at hj ⊢
  have hj' : j < inner.length := by simpa using hj
  rw [Nat.zero_add]
  refine ⟨?_, blk_frozen hh j⟩
  rw [blk_cell hh j, getElem!_pos inner.toArray j (by simpa using hj)]
  have h1 : inner[j]? = cur.toList[j]? := by rw [← ht, List.getElem?_take, if_pos (by omega)]
  rw [← Array.getElem?_toList, ← h1]
  simp [hj']
end Go.Proofs.YtppkfgcnmaifmaaDoor.Hb
namespace Go.Proofs.YtppkfgcnmaifmaaDoor.Hb
open Go.RowKit Go.Proofs.YtppkfgcnmaifmaaDoorW.PrintWords Go.Proofs.YtppkfgcnmaifmaaDoorW.PrintLast Go.Proofs.YtppkfgcnmaifmaaDoorW.PrintMore
attribute [local go_sem] max2_int min2_int max_two min_two max_three min_three max_four min_four   -- for this text's walks alone
set_option linter.unusedVariables false
set_option linter.unusedSimpArgs false
open Go.Sort in
theorem impl_tableaux_2.sort_S (w : World) (g cap B k : Nat) (O : Nat → Prop) (ts : List S56) (hS : Kd.S k56 56 w B O (.slice (some ⟨g, 0, none⟩) ts.length cap) ts) (h0 : ∃ t, impl_TableauText.f k [] [] = some t) (hlen : ts.length < 4611686018427387904) (ht : ∀ x ∈ ts, ∃ t, impl_TableauText.f k x.f0 x.f1 = some t) :
    Calls Tryd.prog 139 #[.slice (some ⟨g, 0, none⟩) ts.length cap, .func (.func 140) #[] #[]] w fun e w' => e = .returned (.tuple #[]) ∧
      ∃ ts' : List S56, ts'.Perm ts ∧ (ts'.Pairwise fun a b => ∀ ta tb, impl_TableauText.f k a.f0 a.f1 = some ta → impl_TableauText.f k b.f0 b.f1 = some tb → Go.Lib.compareBytes ta.data.toList tb.data.toList ≤ 0) ∧
        Kd.S k56 56 w' B O (.slice (some ⟨g, 0, none⟩) ts.length cap) ts' ∧ Kept w w' (fun j => j = g) ∧ Below B w w' := by
  obtain ⟨f, hO, inner, hown, hr⟩ := hS
  rw [List.length_zipIdx] at hown
  obtain ⟨d, hds, hd⟩ := impl_tableaux_2.els hr ht
  obtain ⟨t0, ht0⟩ := h0
  haveI : Inhabited (impl_tableaux_2.El w g k B O f) := ⟨⟨[.slice none 0 0, .slice none 0 0], ⟨[], []⟩, 0, t0, k56_mkM _ _ _ ⟨[], []⟩ (Kd.R_nil _ _ _ _ _) (Kd.R_nil _ _ _ _ _), ht0⟩⟩
  have hl : inner.length = ts.length * 2 := hown.1
  rcases hown.2 with ⟨e, _⟩ | ⟨g', cap', cur, e, hBg, hh, hnc, hcm, hcs, htk⟩
  · cases e
  obtain ⟨rfl, rfl⟩ : g' = g ∧ cap' = cap := by injection e with e1 e2 e3; injection e1 with e1; injection e1 with e1; exact ⟨e1.symm, e3.symm⟩
  have hflat := impl_tableaux_2.flat (inner := inner) hds hl (fun j h => (hd j h (by omega)).2.2)
  have h := Go.Proofs.AnyQ.slices_SortFunc (P := Tryd.prog) Go.Proofs.Tryd.sortTab 2 Tryd.isAgg56 Tryd.sizeOf56 (impl_tableaux_2.El.cs (w := w) (g := g') (k := k) (B := B) (P := O) (f := f)) impl_tableaux_2.El.hl impl_tableaux_2.El.h1 impl_tableaux_2.cf impl_tableaux_2.swo 140 #[] g' 0 cap' d w (enters_ Tryd.func140 (by kernel_rfl) rfl) (impl_tableaux_2.lays w g' k B d.size O f) (impl_tableaux_2.holds hflat (by rw [hl, hds]) hh (by rw [hds]; exact htk)) (blk_lt hh) (by omega)
  rw [hds] at h
  refine (show Calls Tryd.prog 139 _ _ _ from h).mono ?_
  rintro e w' ⟨rfl, d', n, os, hperm, hsort, rfl⟩
  have hsz : d'.size = ts.length := hperm.1.trans hds
  have hpl : d'.toList.Perm d.toList := by
    have h1 := hperm.2.2
    rwa [show d'.extract 0 ts.length = d' from by rw [← hsz]; exact Array.extract_size, show d.extract 0 ts.length = d from by rw [← hds]; exact Array.extract_size] at h1
  have hdx : d.toList.map impl_tableaux_2.El.x = ts := by
    apply List.ext_getElem (by simp [hds])
    intro j h1 h2
    simp only [List.getElem_map, Array.getElem_toList]
    exact (hd j (by simpa using h1) h2).1
  have hdi : d.toList.map impl_tableaux_2.El.ix = List.range ts.length := by
    apply List.ext_getElem (by simp [hds])
    intro j h1 h2
    simp only [List.getElem_map, Array.getElem_toList, List.getElem_range]
    exact (hd j (by simpa using h1) (by simpa using h2)).2.1
  have hsize : w.heap.size ≤ (sortWorldK impl_tableaux_2.El.cs 2 w g' 0 n d' os).heap.size := by
    show _ ≤ ((w.heap.modify g' _) ++ os).size
    rw [Array.size_append, Array.size_modify]
    omega
  refine ⟨rfl, d'.toList.map impl_tableaux_2.El.x, ?_, ?_, ?_, ?_, ?_⟩
  · rw [← hdx]; exact hpl.map _
  · rw [List.pairwise_map, List.pairwise_iff_getElem]
    intro i j hi hj hij ta tb h1 h2
    have hj' : j < d'.size := by simpa using hj
    have hi' : i < d'.size := by simpa using hi
    have hs := hsort i j (Nat.zero_le _) hij (by omega)
    rw [getElem!_pos d' i hi', getElem!_pos d' j hj'] at hs
    have hs' : ¬ Go.Lib.compareBytes d'[j].t.data.toList d'[i].t.data.toList < 0 := of_decide_eq_false hs
    simp only [Array.getElem_toList] at h1 h2
    obtain rfl : d'[i].t = ta := Option.some.inj (d'[i].ht.symm.trans h1)
    obtain rfl : d'[j].t = tb := Option.some.inj (d'[j].ht.symm.trans h2)
    have := strings_Compare.cb_swap d'[i].t.data.toList d'[j].t.data.toList
    omega
  · have hix : (d'.toList.map impl_tableaux_2.El.ix).Nodup := ((hpl.map impl_tableaux_2.El.ix).trans (by rw [hdi])).nodup_iff.2 List.nodup_range
    have hdl : d'.toList.length = ts.length := by rw [← hsz]; rfl
    have hcl : ∀ j (h : j < d'.size), d'[j].cs.length = 2 := fun j h => d'[j].hl
    have hfl : (Go.Sort.flatK impl_tableaux_2.El.cs 2 d').toList.length = ts.length * 2 := by simp [hsz]
    have hseg : ∀ j (h : j < d'.size), (((Go.Sort.flatK impl_tableaux_2.El.cs 2 d').toList.drop (j * 2)).take 2) = d'[j].cs := by
      intro j h
      apply List.ext_getElem
      · rw [List.length_take, List.length_drop, hfl, hcl j h]; omega
      · intro i h1 h2
        have hi : i < 2 := by rw [hcl j h] at h2; exact h2
        have hlt : j * 2 + i < d'.size * 2 := by omega
        rw [List.getElem_take, List.getElem_drop, Array.getElem_toList]
        have := Go.Sort.get_flatK impl_tableaux_2.El.cs 2 d' (j * 2 + i) hlt
        rw [getElem!_pos _ _ (by simpa using hlt)] at this
        rw [this, show (j * 2 + i) / 2 = j from by omega, show (j * 2 + i) % 2 = i from by omega, getElem!_pos d' j h, getElem!_pos d'[j].cs i h2]
    refine ⟨fun q => (d'.toList.map impl_tableaux_2.El.ix).idxOf (f q), hO, (Go.Sort.flatK impl_tableaux_2.El.cs 2 d').toList, ?_, ?_⟩
    · rw [List.length_zipIdx, List.length_map, hdl]
      refine ⟨hfl, .inr ⟨g', cap', putCells id 0 (Go.Sort.flatK impl_tableaux_2.El.cs 2 d') cur, rfl, hBg, ?_, hnc, hcm, ?_, ?_⟩⟩
      · show ((w.heap.modify g' _) ++ os)[g']? = _
        rw [Array.getElem?_append, if_pos (by rw [Array.size_modify]; exact blk_lt hh), Array.getElem?_modify, if_pos rfl, hh]
        rfl
      · have h1 : cur.size = cap' * 2 := hcs
        show (putCells id 0 (Go.Sort.flatK impl_tableaux_2.El.cs 2 d') cur).size = cap' * 2
        simp [putCells, h1]
      · have h1 : cur.size = cap' * 2 := hcs
        show List.take (ts.length * 2) (putCells id 0 (Go.Sort.flatK impl_tableaux_2.El.cs 2 d') cur).toList = _
        apply List.ext_getElem
        · rw [hfl, List.length_take]; simp [putCells, h1]; omega
        · intro i h2 h3
          have hi : i < ts.length * 2 := by rw [hfl] at h3; exact h3
          rw [List.getElem_take, Array.getElem_toList, Array.getElem_toList]
          simp only [putCells, Array.getElem_mapIdx]
          rw [if_pos (by simp [hsz]; omega)]
          simp only [Nat.sub_zero, id]
          rw [getElem!_pos _ _ (by simp [hsz]; omega)]
    · refine ⟨by rw [hfl, List.length_zipIdx, List.length_map, hdl]; rfl, fun j p hj => ?_⟩
      obtain ⟨hj1, hj2⟩ := List.getElem?_eq_some_iff.1 hj
      rw [List.length_zipIdx, List.length_map, hdl] at hj1
      have hjd : j < d'.size := by omega
      rw [List.getElem_zipIdx, List.getElem_map, Array.getElem_toList] at hj2
      subst hj2
      rw [show (Kd.tag (fun q => (d'.toList.map impl_tableaux_2.El.ix).idxOf (f q)) k56).sz = 2 from rfl, hseg j hjd]
      have hidx : (d'.toList.map impl_tableaux_2.El.ix).idxOf d'[j].ix = 0 + j := by
        have h1 : j < (d'.toList.map impl_tableaux_2.El.ix).length := by rw [List.length_map, hdl]; exact hj1
        have h2 := hix.idxOf_getElem j h1
        rw [List.getElem_map, Array.getElem_toList] at h2
        omega
      exact k56.M_mono (fun q hq => ⟨⟨hq.1.1, fun e => hq.1.2 (Option.some.inj e)⟩, by show List.idxOf (f q) _ = 0 + j; rw [hq.2]; exact hidx⟩) (Kd.M_step d'[j].hM (fun q hq hlt => impl_tableaux_2.heap_other _ 2 w g' 0 n d' os q hlt hq.1.2))
  · exact ⟨hsize, fun i hi hn => impl_tableaux_2.heap_other _ 2 w g' 0 n d' os i hi hn⟩
  · exact ⟨rfl, rfl, rfl, hsize, fun j hj => impl_tableaux_2.heap_other _ 2 w g' 0 n d' os j (by have := blk_lt hh; omega) (by omega)⟩
def impl_tableaux.T99_2 : Bool × List (List Nat × List Nat) := (true, [([], []), ([0], [0]), ([], []), ([2, 1], [2]), ([1, 3], [1, 3])])
def impl_tableaux.B99_2 : List Nat := [0, 1, 0, 7, 15]
theorem impl_tableaux.tab99_2 : rtab .any (opsOf Tryd.f99 2) = impl_tableaux.T99_2 := by kernel_rfl
theorem impl_tableaux.bits99_2 : waitsOk impl_tableaux.T99_2.2 impl_tableaux.B99_2 = true := by kernel_rfl
def impl_tableaux.T99_4 : Bool × List (List Nat × List Nat) := (true, [([], []), ([0], [0]), ([1], [1]), ([], []), ([3], [3]), ([4], [4]), ([5, 5], [5]), ([2, 6], [2, 6]), ([], []), ([8, 7, 2, 0, 1, 2, 3, 4, 5, 6, 7, 8], [7, 8])])
def impl_tableaux.B99_4 : List Nat := [0, 1, 3, 0, 8, 24, 56, 127, 0, 511]
theorem impl_tableaux.tab99_4 : rtab .any (opsOf Tryd.f99 4) = impl_tableaux.T99_4 := by kernel_rfl
theorem impl_tableaux.bits99_4 : waitsOk impl_tableaux.T99_4.2 impl_tableaux.B99_4 = true := by kernel_rfl
theorem impl_tableaux.rowsAt_new {w : World} {B g n : Nat} {T : Nat → Prop} (hT : T g) (hB : B ≤ g) (hh : w.heap[g]? = some (.cells (madeCells #[.slice none 0 0] n) 22 (0, 0))) : impl_grow.RowsAt w B g T (List.replicate n []) := by
  have hm : madeCells #[Value.slice none 0 0] n = (List.replicate n (Value.slice none 0 0)).toArray := by
    apply Array.ext'
    apply List.ext_getElem
    · simp [madeCells]
    · intro i h1 h2
      simp [madeCells, Nat.mod_one]
  refine ⟨hT, hB, List.replicate n (.slice none 0 0), by simp, by rw [hh, hm], fun i v xs hv hx => ?_, fun i j v u _ hv _ k hk => ?_⟩
  · rw [List.getElem?_replicate] at hv hx
    split at hv
    · rename_i hi
      rw [if_pos hi] at hx
      obtain rfl := Option.some.inj hv
      obtain rfl := Option.some.inj hx
      exact ⟨⟨rfl, .inl ⟨rfl, rfl⟩⟩, fun k hk => by simp [Value.ownBlock] at hk⟩
    · cases hv
  · rw [List.getElem?_replicate] at hv
    split at hv
    · obtain rfl := Option.some.inj hv
      simp [Value.ownBlock] at hk
    · cases hv
set_option maxHeartbeats 4000000 in
set_option maxRecDepth 100000 in
theorem impl_tableaux.none_calls (k : Nat) (A0 : Option Addr) (c0 : Nat) (outer : List Int) (A1 : Option Addr) (c1 : Nat) (inner : List Int) (A2 : Option Addr) (c2 : Nat) (ws : List Int) (s c : Int) (w : World)
    (hO : Kd.C (Kd.int .i64) w A0 outer.length outer) (hc0 : outer.length ≤ c0) (hI : Kd.C (Kd.int .i64) w A1 inner.length inner) (hc1 : inner.length ≤ c1) (hW : Kd.C (Kd.int .i64) w A2 ws.length ws) (hc2 : ws.length ≤ c2)
    (hs : impl_sum.f k ws = some s) (hcc : impl_CellCount.f k outer inner = some c) (hne : s ≠ c) :
    Calls Tryd.prog 99 #[.agg #[.slice A0 outer.length c0, .slice A1 inner.length c1], .slice A2 ws.length c2] w fun e w' => ∃ v0_ : Value, e = .returned v0_ ∧ Kd.S k56 56 w' w.heap.size (fun _ => True) v0_ [] ∧ Below w.heap.size w w' := by
  have ct1 : (s == c) = false := beq_false_of_ne hne
  have ct2 : (s != c) = true := by simp [bne, ct1]
  clear hne
  have hu38 := Tryd.underlying38
  have hu56 := Tryd.underlying56
  have HO := Aside0.mk hO
  have HI := Aside0.mk hI
  have HW := Aside0.mk hW
  have HC := Aside0.mk (And.intro hc0 (And.intro hc1 hc2))
  have HS := Aside0.mk (And.intro hs hcc)
  clear hO hI hW hc0 hc1 hc2 hs hcc
  go_enter Tryd.func99, Tryd.ntmps99
  go_wp2_with (first
    | ((with_reducible refine gate_dst (N := 2) rfl ?_); refine box_event ?hg (N := 2) ?hd (cs := #[.slice A0 outer.length c0, .slice A1 inner.length c1]) (t := 38) ?hr ?_; (case hd => rfl); (case hg => rfl); (case hr => first | (go_simp; done) | (go_simp; rfl)); intro g2 h2 w2 hb2 hl2; have B2 := Aside0.mk hb2; have L2 := Aside0.mk hl2; have G2 := Aside0.mk (Nat.le_of_eq h2.symm); clear hb2 hl2 h2)
    | ((with_reducible refine gate_dst (N := 7) rfl ?_); refine Kd.S_lit k56 (w0 := w) w.heap.size 56 ?hg (N := 7) ?hd (xs := ([] : List S56)) (inner := []) (ok := fun k => w2.heap.size ≤ k) (okp := fun k => w2.heap.size ≤ k) ?hr ?hp (fun _ hk => hk) (Nat.le_refl _) L2.out L2.out.size (by simp) ?_; (case hd => rfl); (case hg => rfl); (case hr => first | (go_simp; done) | (go_simp; rfl)); (case hp => exact (Reps.none _ _)); intro v7 w7 ho7 hb7 hg_ hnew_; obtain ⟨A7, n7, c7, hv7⟩ : ∃ A n c, v7 = .slice A n c := (by obtain ⟨A, c, h⟩ := Kd.S_slice ho7; exact ⟨A, _, c, h⟩); subst hv7; have S7 := Aside0.mk (Kd.S_mono (ok' := fun k => w2.heap.size ≤ k ∧ k < w7.heap.size) (Kd.S_bound ho7) (fun k hk => ⟨hk.1, hk.2.2.1⟩)); have L7 := Aside0.mk hb7; have B27 := Aside0.mk (blk_grown B2.out hg_ (by simp)); have Z7 := Aside0.mk hg_.size; clear ho7 hb7 hg_ hnew_)
    | ((with_reducible refine gate_dst (N := 5) rfl ?_); refine box_event ?hg (N := 5) ?hd (cs := #[.slice none 0 0]) (t := 70) ?hr ?_; (case hd => rfl); (case hg => rfl); (case hr => first | (go_simp; done) | (go_simp; rfl)); intro g5 h5 w5 hb5 hl5; have B5 := Aside0.mk hb5; have L5 := Aside0.mk (below_step L7.out hl5); have P5 := Aside0.mk hl5; have G5 := Aside0.mk h5; have x5 := (blk_cell hb5 0).trans rfl; have f5 := blk_frozen hb5 0; clear hb5 hl5 h5))
  clear x5 f5
  have HG5 := Aside0.mk (show w.heap.size ≤ g5 by rw [G5.out]; exact L7.out.size)
  have HB5 := Aside0.mk (one_setCell (u := .slice A7 n7 c7) B5.out)
  have HB2 := Aside0.mk (blk_far (blk_below B27.out P5.out) (p := ⟨g5, 0, none⟩) (fun e => by have h1 := blk_lt B27.out; have h2 := G5.out; simp only at e; omega) (.slice A7 n7 c7))
  have HS5 := Aside0.mk (Kd.S_far (p := ⟨g5, 0, none⟩) (Kd.S_below S7.out P5.out) (fun k hk e => by have h1 := hk.2; have h2 := G5.out; simp only at e; omega) (.slice A7 n7 c7))
  have LS := Aside0.mk (show Below w.heap.size w (w5.setCell ⟨g5, 0, none⟩ (.slice A7 n7 c7)) from L5.out.setCell HG5.out _)
  refine start_ (n := 5) (S := fun w' => w'.cell? ⟨g2, 0, none⟩ = some (.slice A0 outer.length c0) ∧ w'.cell? ⟨g2, 1, none⟩ = some (.slice A1 inner.length c1)) (ds := []) #[false, false, false, false, false] (by kernel_rfl) rfl rfl (⟨(blk_cell HB2.out 0).trans rfl, (blk_cell HB2.out 1).trans rfl⟩) (fun hHeld => ?_); refine with_tabW impl_tableaux.tab99_2 impl_tableaux.bits99_2 (fun HT_ HW_ => ?_)
  have LA := Aside0.mk (show Below w.heap.size w (w5.setCell ⟨g5, 0, none⟩ (.slice A7 n7 c7)).drew from LS.out.drew)
  have BA2 := Aside0.mk (blk_drew HB2.out)
  have BA5 := Aside0.mk (blk_drew HB5.out)
  have SA := Aside0.mk (Kd.S_below HS5.out (below_drew (Below.refl _ _)))
  have ZA := Aside0.mk (show w7.heap.size ≤ g5 ∧ g5 < (w5.setCell ⟨g5, 0, none⟩ (.slice A7 n7 c7)).drew.heap.size from ⟨Nat.le_of_eq G5.out.symm, blk_lt HB5.out⟩)
  generalize (w5.setCell ⟨g5, 0, none⟩ (.slice A7 n7 c7)).drew = wa at LA BA2 BA5 SA ZA hHeld ⊢
  clear HB5 HB2 HS5 LS
  refine pure_ (i := 0) (N := some 8) (v := ?_) (a' := ?_) #[true, false, false, false, false] rfl rfl (any_of HT_.out (by kernel_rfl)) (fun _ _ _ h => h) (Or.inl ⟨by rfl, ?_⟩) ?_ ?_
  rotate_left
  · intro w'
    go_simp
    with_reducible rfl
  rotate_left
  · simp only [Act.put, List.setIfInBounds_toArray, List.set_cons_zero, List.set_cons_succ, i64_w, i32_w]
    rfl
  refine take_ (i := 2) (N := some 10) (v := ?_) (a' := ?_) #[true, false, true, false, false] rfl rfl (take_ofW HT_.out HW_.out (by kernel_rfl)) (fun _ _ _ h => h) (Or.inl ⟨by rfl, ?_⟩) hHeld ?_ ?_
  rotate_left
  · rintro w' ⟨s0, s1⟩
    go_simp
    with_reducible rfl
  rotate_left
  · simp only [Act.put, List.setIfInBounds_toArray, List.set_cons_zero, List.set_cons_succ, i64_w, i32_w]
    rfl
  refine one_ (i := 1) (N := some 9) #[true, true, true, false, false] rfl rfl (one_of HT_.out (by kernel_rfl)) (by decide) (fun K hK => ?_)
  refine goes_ Tryd.func32 (by kernel_rfl) rfl #[.slice A2 ws.length c2] (by rfl) rfl rfl (by (try simp only [List.map_toArray, List.map_cons, List.map_nil]); rfl) ?_
  refine (impl_sum.calls k A2 c2 ws s wa (Kd.C_below HW.out LA.out) HC.out.2.2 HS.out.1).mono ?_
  rintro e wd ⟨rfl, ⟨nd, rfl⟩⟩
  refine ⟨_, rfl, ?_⟩
  have DD := Aside0.mk (show Below wa.heap.size wa (wa.drewN nd) from pw_below_drewN (Below.refl _ _) _)
  refine hK.out _ _ ⟨(blk_cell (blk_drewN BA2.out _) 0).trans rfl, (blk_cell (blk_drewN BA2.out _) 1).trans rfl⟩ (fun hHeld => ?_)
  clear hK K
  refine norm_ (a' := ?_) ?_ ?_
  rotate_left
  · show Act.put _ (some 9) _ = _
    simp only [Act.put, List.setIfInBounds_toArray, List.set_cons_zero, List.set_cons_succ, i64_w, i32_w]
    rfl
  refine one_ (i := 3) (N := some 11) #[true, true, true, true, false] rfl rfl (one_of HT_.out (by kernel_rfl)) (by decide) (fun K hK => ?_)
  refine goes_ Tryd.func101 (by kernel_rfl) rfl #[.agg #[.slice A0 outer.length c0, .slice A1 inner.length c1]] (by rfl) rfl rfl (by (try simp only [List.map_toArray, List.map_cons, List.map_nil]); rfl) ?_
  refine (impl_CellCount.calls k A0 c0 outer A1 c1 inner c _ (Kd.C_below HO.out (below_step LA.out DD.out)) HC.out.1 (Kd.C_below HI.out (below_step LA.out DD.out)) HC.out.2.1 HS.out.2).mono ?_
  rintro e wb ⟨rfl, hbc⟩
  have hwb := below_step DD.out hbc
  have LB := Aside0.mk (below_step LA.out hwb)
  have BB2 := Aside0.mk (blk_below BA2.out hwb)
  have BB5 := Aside0.mk (blk_below BA5.out hwb)
  have SB := Aside0.mk (Kd.S_below SA.out hwb)
  have ZB := Aside0.mk (show w7.heap.size ≤ g5 ∧ wa.heap.size ≤ wb.heap.size ∧ g5 < wa.heap.size from ⟨ZA.out.1, hwb.size, ZA.out.2⟩)
  clear hwb hbc LA BA2 BA5 SA ZA DD
  refine ⟨_, rfl, ?_⟩
  refine hK.out _ _ ⟨(blk_cell BB2.out 0).trans rfl, (blk_cell BB2.out 1).trans rfl⟩ (fun hHeld => ?_)
  clear hK K
  refine norm_ (a' := ?_) ?_ ?_
  rotate_left
  · show Act.put _ (some 11) _ = _
    simp only [Act.put, List.setIfInBounds_toArray, List.set_cons_zero, List.set_cons_succ, i64_w, i32_w]
    rfl
  refine pure_ (i := 4) (N := some 12) (v := ?_) (a' := ?_) #[true, true, true, true, true] rfl rfl (any_of HT_.out (by kernel_rfl)) (fun _ _ _ h => h) (Or.inl ⟨by rfl, ?_⟩) ?_ ?_
  rotate_left
  · intro w'
    go_simp
    with_reducible rfl
  rotate_left
  · simp only [Act.put, List.setIfInBounds_toArray, List.set_cons_zero, List.set_cons_succ, i64_w, i32_w]
    rfl
  refine done_ (done_of HT_.out (by kernel_rfl)) ?_
  have hx := (blk_cell BB5.out 0).trans rfl
  go_wp2
  go_ret
  exact ⟨_, rfl, Kd.S_mono SB.out (fun _ _ => trivial), LB.out⟩
theorem impl_tableaux.S_at {α : Type} {d : Kd α} {e base : Nat} {w : World} {ok : Nat → Prop} {v : Value} {xs : List α} (h : Kd.S d e w base ok v xs) (hn : v.ownBlock ≠ none) : ∃ g c, v = .slice (some ⟨g, 0, none⟩) xs.length c ∧ ok g := by
  obtain ⟨f, hO, inner, hown, hr⟩ := h
  rw [List.length_zipIdx] at hown
  rcases hown.2 with ⟨e, _⟩ | ⟨g', cap', cur, e, _⟩
  · rw [e] at hn
    simp [Value.ownBlock] at hn
  · subst e
    exact ⟨g', cap', rfl, hO g' rfl⟩
set_option maxHeartbeats 8000000 in
set_option maxRecDepth 100000 in
theorem impl_tableaux.some_calls (k : Nat) (A0 : Option Addr) (c0 : Nat) (outer : List Int) (A1 : Option Addr) (c1 : Nat) (inner : List Int) (A2 : Option Addr) (c2 : Nat) (ws : List Int) (s c : Int) (w : World)
    (hO : Kd.C (Kd.int .i64) w A0 outer.length outer) (hc0 : outer.length ≤ c0) (hI : Kd.C (Kd.int .i64) w A1 inner.length inner) (hc1 : inner.length ≤ c1) (hW : Kd.C (Kd.int .i64) w A2 ws.length ws) (hc2 : ws.length ≤ c2)
    (hs : impl_sum.f k ws = some s) (hcc : impl_CellCount.f k outer inner = some c) (heq : s = c)
    (hbo : ∀ x ∈ outer, 0 ≤ x ∧ x ≤ 9) (hbi : ∀ x ∈ inner, 0 ≤ x ∧ x ≤ 9) (hlo : outer.length ≤ 1000) (hli : inner.length ≤ 1000) (hws : ∀ x ∈ ws, 0 ≤ x) (hwl : ws.length ≤ 900) (hwt : impl_grow.total ws ≤ 1000)
    (hgl : (Gr.growL outer inner ws (List.replicate outer.length []) 1).length < 2000000000) (ht0 : ∃ t, impl_TableauText.f k [] [] = some t) (ht : ∀ r ∈ Gr.growL outer inner ws (List.replicate outer.length []) 1, ∃ t, impl_TableauText.f k inner r = some t) :
    Calls Tryd.prog 99 #[.agg #[.slice A0 outer.length c0, .slice A1 inner.length c1], .slice A2 ws.length c2] w fun e w' => ∃ v0_ : Value, e = .returned v0_ ∧
      (∃ ts' : List S56, ts'.Perm ((Gr.growL outer inner ws (List.replicate outer.length []) 1).map fun r => ⟨inner, r⟩) ∧ (ts'.Pairwise fun a b => ∀ ta tb, impl_TableauText.f k a.f0 a.f1 = some ta → impl_TableauText.f k b.f0 b.f1 = some tb → Go.Lib.compareBytes ta.data.toList tb.data.toList ≤ 0) ∧
        Kd.S k56 56 w' w.heap.size (fun _ => True) v0_ ts') ∧ Below w.heap.size w w' := by
  have ct1 : (s == c) = true := by simp [heq]
  have ct2 : (s != c) = false := by simp [bne, ct1]
  have HL := Aside0.mk (And.intro hlo (And.intro hli (And.intro hwl hwt)))
  have HBW := Aside0.mk (And.intro hbo (And.intro hbi hws))
  have HGL := Aside0.mk hgl
  have HT := Aside0.mk (And.intro ht0 ht)
  have HCL : Aside0 (slices_Clone_int_int.f inner = some inner) := ⟨by unfold slices_Clone_int_int.f; rw [if_pos (by omega)]⟩
  clear heq hlo hli hwl hwt hbo hbi hws hgl ht0 ht
  have hu38 := Tryd.underlying38
  have hu56 := Tryd.underlying56
  have HO := Aside0.mk hO
  have HI := Aside0.mk hI
  have HW := Aside0.mk hW
  have HC := Aside0.mk (And.intro hc0 (And.intro hc1 hc2))
  have HS := Aside0.mk (And.intro hs hcc)
  clear hO hI hW hc0 hc1 hc2 hs hcc
  go_enter Tryd.func99, Tryd.ntmps99
  go_wp2_with (first
    | ((with_reducible refine gate_dst (N := 2) rfl ?_); refine box_event ?hg (N := 2) ?hd (cs := #[.slice A0 outer.length c0, .slice A1 inner.length c1]) (t := 38) ?hr ?_; (case hd => rfl); (case hg => rfl); (case hr => first | (go_simp; done) | (go_simp; rfl)); intro g2 h2 w2 hb2 hl2; have B2 := Aside0.mk hb2; have L2 := Aside0.mk hl2; have G2 := Aside0.mk (Nat.le_of_eq h2.symm); have Z2 := Aside0.mk hl2.size; clear hb2 hl2 h2)
    | ((with_reducible refine gate_dst (N := 7) rfl ?_); refine Kd.S_lit k56 (w0 := w) w.heap.size 56 ?hg (N := 7) ?hd (xs := ([] : List S56)) (inner := []) (ok := fun k => w2.heap.size ≤ k) (okp := fun k => w2.heap.size ≤ k) ?hr ?hp (fun _ hk => hk) (Nat.le_refl _) L2.out L2.out.size (by simp) ?_; (case hd => rfl); (case hg => rfl); (case hr => first | (go_simp; done) | (go_simp; rfl)); (case hp => exact (Reps.none _ _)); intro v7 w7 ho7 hb7 hg_ hnew_; obtain ⟨A7, n7, c7, hv7⟩ : ∃ A n c, v7 = .slice A n c := (by obtain ⟨A, c, h⟩ := Kd.S_slice ho7; exact ⟨A, _, c, h⟩); subst hv7; have S7 := Aside0.mk (Kd.S_mono (ok' := fun k => w2.heap.size ≤ k ∧ k < w7.heap.size) (Kd.S_bound ho7) (fun k hk => ⟨hk.1, hk.2.2.1⟩)); have L7 := Aside0.mk hb7; have B27 := Aside0.mk (blk_grown B2.out hg_ (by simp)); have Z7 := Aside0.mk hg_.size; have VN := Aside0.mk (show (Value.slice A7 n7 c7).ownBlock ≠ none by obtain ⟨b, hb, _⟩ := hnew_; rw [hb]; simp); clear ho7 hb7 hg_ hnew_)
    | ((with_reducible refine gate_dst (N := 5) rfl ?_); refine box_event ?hg (N := 5) ?hd (cs := #[.slice none 0 0]) (t := 70) ?hr ?_; (case hd => rfl); (case hg => rfl); (case hr => first | (go_simp; done) | (go_simp; rfl)); intro g5 h5 w5 hb5 hl5; have B5 := Aside0.mk hb5; have L5 := Aside0.mk (below_step L7.out hl5); have P5 := Aside0.mk hl5; have G5 := Aside0.mk h5; have x5 := (blk_cell hb5 0).trans rfl; have f5 := blk_frozen hb5 0; clear hb5 hl5 h5))
  clear x5 f5
  have HG5 := Aside0.mk (show w.heap.size ≤ g5 by rw [G5.out]; exact L7.out.size)
  have HB5 := Aside0.mk (one_setCell (u := .slice A7 n7 c7) B5.out)
  have HB2 := Aside0.mk (blk_far (blk_below B27.out P5.out) (p := ⟨g5, 0, none⟩) (fun e => by have h1 := blk_lt B27.out; have h2 := G5.out; simp only at e; omega) (.slice A7 n7 c7))
  have HS5 := Aside0.mk (Kd.S_far (p := ⟨g5, 0, none⟩) (Kd.S_below S7.out P5.out) (fun k hk e => by have h1 := hk.2; have h2 := G5.out; simp only at e; omega) (.slice A7 n7 c7))
  have LS := Aside0.mk (show Below w.heap.size w (w5.setCell ⟨g5, 0, none⟩ (.slice A7 n7 c7)) from L5.out.setCell HG5.out _)
  refine start_ (n := 5) (S := fun w' => w'.cell? ⟨g2, 0, none⟩ = some (.slice A0 outer.length c0) ∧ w'.cell? ⟨g2, 1, none⟩ = some (.slice A1 inner.length c1)) (ds := []) #[false, false, false, false, false] (by kernel_rfl) rfl rfl (⟨(blk_cell HB2.out 0).trans rfl, (blk_cell HB2.out 1).trans rfl⟩) (fun hHeld => ?_); refine with_tabW impl_tableaux.tab99_2 impl_tableaux.bits99_2 (fun HT_ HW_ => ?_)
  have LA := Aside0.mk (show Below w.heap.size w (w5.setCell ⟨g5, 0, none⟩ (.slice A7 n7 c7)).drew from LS.out.drew)
  have BA2 := Aside0.mk (blk_drew HB2.out)
  have BA5 := Aside0.mk (blk_drew HB5.out)
  have SA := Aside0.mk (Kd.S_below HS5.out (below_drew (Below.refl _ _)))
  have ZA := Aside0.mk (show w7.heap.size ≤ g5 ∧ g5 < (w5.setCell ⟨g5, 0, none⟩ (.slice A7 n7 c7)).drew.heap.size from ⟨Nat.le_of_eq G5.out.symm, blk_lt HB5.out⟩)
  generalize (w5.setCell ⟨g5, 0, none⟩ (.slice A7 n7 c7)).drew = wa at LA BA2 BA5 SA ZA hHeld ⊢
  clear HB5 HB2 HS5 LS
  refine pure_ (i := 0) (N := some 8) (v := ?_) (a' := ?_) #[true, false, false, false, false] rfl rfl (any_of HT_.out (by kernel_rfl)) (fun _ _ _ h => h) (Or.inl ⟨by rfl, ?_⟩) ?_ ?_
  rotate_left
  · intro w'
    go_simp
    with_reducible rfl
  rotate_left
  · simp only [Act.put, List.setIfInBounds_toArray, List.set_cons_zero, List.set_cons_succ, i64_w, i32_w]
    rfl
  refine take_ (i := 2) (N := some 10) (v := ?_) (a' := ?_) #[true, false, true, false, false] rfl rfl (take_ofW HT_.out HW_.out (by kernel_rfl)) (fun _ _ _ h => h) (Or.inl ⟨by rfl, ?_⟩) hHeld ?_ ?_
  rotate_left
  · rintro w' ⟨s0, s1⟩
    go_simp
    with_reducible rfl
  rotate_left
  · simp only [Act.put, List.setIfInBounds_toArray, List.set_cons_zero, List.set_cons_succ, i64_w, i32_w]
    rfl
  refine one_ (i := 1) (N := some 9) #[true, true, true, false, false] rfl rfl (one_of HT_.out (by kernel_rfl)) (by decide) (fun K hK => ?_)
  refine goes_ Tryd.func32 (by kernel_rfl) rfl #[.slice A2 ws.length c2] (by rfl) rfl rfl (by (try simp only [List.map_toArray, List.map_cons, List.map_nil]); rfl) ?_
  refine (impl_sum.calls k A2 c2 ws s wa (Kd.C_below HW.out LA.out) HC.out.2.2 HS.out.1).mono ?_
  rintro e wd ⟨rfl, ⟨nd, rfl⟩⟩
  refine ⟨_, rfl, ?_⟩
  have DD := Aside0.mk (show Below wa.heap.size wa (wa.drewN nd) from pw_below_drewN (Below.refl _ _) _)
  refine hK.out _ _ ⟨(blk_cell (blk_drewN BA2.out _) 0).trans rfl, (blk_cell (blk_drewN BA2.out _) 1).trans rfl⟩ (fun hHeld => ?_)
  clear hK K
  refine norm_ (a' := ?_) ?_ ?_
  rotate_left
  · show Act.put _ (some 9) _ = _
    simp only [Act.put, List.setIfInBounds_toArray, List.set_cons_zero, List.set_cons_succ, i64_w, i32_w]
    rfl
  refine one_ (i := 3) (N := some 11) #[true, true, true, true, false] rfl rfl (one_of HT_.out (by kernel_rfl)) (by decide) (fun K hK => ?_)
  refine goes_ Tryd.func101 (by kernel_rfl) rfl #[.agg #[.slice A0 outer.length c0, .slice A1 inner.length c1]] (by rfl) rfl rfl (by (try simp only [List.map_toArray, List.map_cons, List.map_nil]); rfl) ?_
  refine (impl_CellCount.calls k A0 c0 outer A1 c1 inner c _ (Kd.C_below HO.out (below_step LA.out DD.out)) HC.out.1 (Kd.C_below HI.out (below_step LA.out DD.out)) HC.out.2.1 HS.out.2).mono ?_
  rintro e wb ⟨rfl, hbc⟩
  have hwb := below_step DD.out hbc
  have LB := Aside0.mk (below_step LA.out hwb)
  have BB2 := Aside0.mk (blk_below BA2.out hwb)
  have BB5 := Aside0.mk (blk_below BA5.out hwb)
  have SB := Aside0.mk (Kd.S_below SA.out hwb)
  have ZB := Aside0.mk (show w7.heap.size ≤ g5 ∧ wa.heap.size ≤ wb.heap.size ∧ g5 < wa.heap.size from ⟨ZA.out.1, hwb.size, ZA.out.2⟩)
  clear hwb hbc LA BA2 BA5 SA ZA DD
  refine ⟨_, rfl, ?_⟩
  refine hK.out _ _ ⟨(blk_cell BB2.out 0).trans rfl, (blk_cell BB2.out 1).trans rfl⟩ (fun hHeld => ?_)
  clear hK K
  refine norm_ (a' := ?_) ?_ ?_
  rotate_left
  · show Act.put _ (some 11) _ = _
    simp only [Act.put, List.setIfInBounds_toArray, List.set_cons_zero, List.set_cons_succ, i64_w, i32_w]
    rfl
  refine pure_ (i := 4) (N := some 12) (v := ?_) (a' := ?_) #[true, true, true, true, true] rfl rfl (any_of HT_.out (by kernel_rfl)) (fun _ _ _ h => h) (Or.inl ⟨by rfl, ?_⟩) ?_ ?_
  rotate_left
  · intro w'
    go_simp
    with_reducible rfl
  rotate_left
  · simp only [Act.put, List.setIfInBounds_toArray, List.set_cons_zero, List.set_cons_succ, i64_w, i32_w]
    rfl
  refine done_ (done_of HT_.out (by kernel_rfl)) ?_
  go_wp2
  have LC0 := Aside0.mk (show Below w.heap.size w wb.drew from LB.out.drew)
  refine start_ (n := 10) (S := fun w' => w'.cell? ⟨g2, 0, none⟩ = some (.slice A0 outer.length c0) ∧ w'.cell? ⟨g2, 1, none⟩ = some (.slice A1 inner.length c1)) (ds := []) #[false, false, false, false, false, false, false, false, false, false] (by kernel_rfl) rfl rfl (⟨(blk_cell BB2.out 0).trans rfl, (blk_cell BB2.out 1).trans rfl⟩) (fun hHeld => ?_); refine with_tabW impl_tableaux.tab99_4 impl_tableaux.bits99_4 (fun HT_ HW_ => ?_)
  have LC := Aside0.mk (show Below w.heap.size w wb.drew from LB.out.drew)
  have BC2 := Aside0.mk (blk_drew BB2.out)
  have BC5 := Aside0.mk (blk_drew BB5.out)
  have SC := Aside0.mk (Kd.S_below SB.out (below_drew (Below.refl _ _)))
  have ZC := Aside0.mk (show w7.heap.size ≤ g5 ∧ g5 < wb.drew.heap.size from ⟨ZB.out.1, blk_lt BB5.out⟩)
  generalize wb.drew = wc at LC BC2 BC5 SC ZC hHeld ⊢
  clear LC0 BB2 BB5 SB ZB LB
  refine pure_ (i := 0) (N := some 14) (v := ?_) (a' := ?_) #[true, false, false, false, false, false, false, false, false, false] rfl rfl (any_of HT_.out (by kernel_rfl)) (fun _ _ _ h => h) (Or.inl ⟨by rfl, ?_⟩) ?_ ?_
  rotate_left
  · intro w'
    go_simp
    with_reducible rfl
  rotate_left
  · simp only [Act.put, List.setIfInBounds_toArray, List.set_cons_zero, List.set_cons_succ, i64_w, i32_w]
    rfl
  refine take_ (i := 1) (N := some 15) (v := ?_) (a' := ?_) #[true, true, false, false, false, false, false, false, false, false] rfl rfl (take_ofW HT_.out HW_.out (by kernel_rfl)) (fun _ _ _ h => h) (Or.inl ⟨by rfl, ?_⟩) hHeld ?_ ?_
  rotate_left
  · rintro w' ⟨s0, s1⟩
    go_simp
    with_reducible rfl
  rotate_left
  · simp only [Act.put, List.setIfInBounds_toArray, List.set_cons_zero, List.set_cons_succ, i64_w, i32_w]
    rfl
  refine pure_ (i := 3) (N := some 17) (v := ?_) (a' := ?_) #[true, true, false, true, false, false, false, false, false, false] rfl rfl (any_of HT_.out (by kernel_rfl)) (fun _ _ _ h => h) (Or.inl ⟨by rfl, ?_⟩) ?_ ?_
  rotate_left
  · intro w'
    go_simp
    with_reducible rfl
  rotate_left
  · simp only [Act.put, List.setIfInBounds_toArray, List.set_cons_zero, List.set_cons_succ, i64_w, i32_w]
    rfl
  refine take_ (i := 4) (N := some 18) (v := ?_) (a' := ?_) #[true, true, false, true, true, false, false, false, false, false] rfl rfl (take_ofW HT_.out HW_.out (by kernel_rfl)) (fun _ _ _ h => h) (Or.inl ⟨by rfl, ?_⟩) hHeld ?_ ?_
  rotate_left
  · rintro w' ⟨s0, s1⟩
    go_simp
    with_reducible rfl
  rotate_left
  · simp only [Act.put, List.setIfInBounds_toArray, List.set_cons_zero, List.set_cons_succ, i64_w, i32_w]
    rfl
  refine pure_ (i := 5) (N := some 19) (v := ?_) (a' := ?_) #[true, true, false, true, true, true, false, false, false, false] rfl rfl (any_of HT_.out (by kernel_rfl)) (fun _ _ _ h => h) (Or.inl ⟨by rfl, ?_⟩) ?_ ?_
  rotate_left
  · intro w'
    go_simp
    with_reducible rfl
  rotate_left
  · simp only [Act.put, List.setIfInBounds_toArray, List.set_cons_zero, List.set_cons_succ, i64_w, i32_w]
    rfl
  refine join_ (σ := (Option Addr × Nat) × Nat × Nat) 1 #[true, true, true, true, true, true, true, true, true, false] (fun s => [(16, .slice s.1.1 inner.length s.1.2), (20, .slice (some ⟨s.2.1, 0, none⟩) outer.length outer.length), (6, .pointer (some ⟨s.2.2, 0, none⟩)), (21, .agg #[.slice s.1.1 inner.length s.1.2, .slice (some ⟨s.2.1, 0, none⟩) outer.length outer.length])]) (fun s w' => Kd.R (Kd.int .i64) 3 w' w.heap.size (fun k => k ≠ s.2.1 ∧ k ≠ s.2.2 ∧ wc.heap.size ≤ k) (.slice s.1.1 inner.length s.1.2) inner ∧ w'.heap[s.2.1]? = some (.cells (madeCells #[.slice none 0 0] outer.length) 22 (0, 0)) ∧ w'.heap[s.2.2]? = some (.cells #[.slice none 0 0, .slice none 0 0] 56 (0, 0)) ∧ s.2.1 ≠ s.2.2 ∧ wc.heap.size ≤ s.2.1 ∧ wc.heap.size ≤ s.2.2 ∧ Below wc.heap.size wc w') ?_ ?_
  rotate_left
  · intro hCont
    refine three_ (i := 2) (j := 6) (k := 8) (Ni := some 16) (Nj := some 20) (Nk := some 6) #[true, true, true, true, true, true, false, false, false, false] #[true, true, false, true, true, true, true, false, false, false] #[true, true, false, true, true, true, false, false, true, false] rfl rfl rfl rfl rfl rfl (by kernel_rfl) (by decide) (by decide) (by decide) (fun K hK => ?_) (fun K hK => ?_) (fun K hK => ?_)
    · skip
      refine goes_ Tryd.func31 (by kernel_rfl) rfl #[.slice A1 inner.length c1] (by rfl) rfl rfl (by (try simp only [List.map_toArray, List.map_cons, List.map_nil]); rfl) ?_
      refine (slices_Clone_int_int.calls A1 c1 inner inner wc (Kd.C_below HI.out LC.out) HC.out.2.1 HCL.out).mono ?_
      rintro e wc2 ⟨v0, rfl, hR, hb⟩; obtain ⟨A20, c20, e20⟩ := Kd.R_slice hR; subst e20
      have R2 := Aside0.mk (Kd.R_mono (ok' := fun k => wc.heap.size ≤ k ∧ k < wc2.heap.size) (Kd.R_lower (Kd.R_bound hR) LC.out.size) (fun k hk => ⟨hk.2.1, hk.2.2.1⟩))
      clear hR
      refine ⟨_, rfl, ?_⟩
      have E2 := Aside0.mk (show Below wc.heap.size wc wc2 from hb)
      have Z2 := Aside0.mk hb.size
      clear hb
      refine hK.out _ _ ⟨(blk_cell (blk_below BC2.out E2.out) 0).trans rfl, (blk_cell (blk_below BC2.out E2.out) 1).trans rfl⟩ (fun hHeld => ?_)
      clear hK K
      refine norm_ (a' := ?_) ?_ ?_
      rotate_left
      · show Act.put _ (some 16) _ = _
        simp only [Act.put, List.setIfInBounds_toArray, List.set_cons_zero, List.set_cons_succ, i64_w, i32_w]
        rfl
      refine two_ (i := 6) (j := 8) (Ni := some 20) (Nj := some 6) #[true, true, true, true, true, true, true, false, false, false] #[true, true, true, true, true, true, false, false, true, false] rfl rfl rfl rfl (two_of HT_.out (by kernel_rfl)) (by decide) (by decide) (fun K hK => ?_) (fun K hK => ?_)
      · skip
        refine event_step (by rfl) (w1 := wc2.alloc (Obj.cells (madeCells #[Value.slice none 0 0] outer.length) 22)) (v := .slice (some ⟨wc2.heap.size, 0, none⟩) outer.length outer.length) ?_ ?_
        · have hmk := print_make_of (P := Tryd.prog) 51 22 (.slice none 0 0) 24 Tryd.underlying51 (by kernel_rfl) rfl (by omega) outer.length (by have := HL.out.1; omega) wc2
          go_simp
        obtain ⟨wc26, hwc26⟩ : ∃ W, W = wc2.alloc (Obj.cells (madeCells #[Value.slice none 0 0] outer.length) 22) := ⟨_, rfl⟩
        obtain ⟨gR, hgR⟩ : ∃ g, g = wc2.heap.size := ⟨_, rfl⟩
        rw [← hwc26, ← hgR]
        have hb : Below wc2.heap.size wc2 wc26 := by rw [hwc26]; exact below_alloc (Below.refl _ _) _
        have H6 := Aside0.mk (show wc26.heap[gR]? = some (.cells (madeCells #[.slice none 0 0] outer.length) 22 (0, 0)) by rw [hwc26, hgR]; exact blk_new _ _)
        have N6 := Aside0.mk (show gR = wc2.heap.size ∧ gR < wc26.heap.size from ⟨hgR, blk_lt H6.out⟩)
        clear hgR hwc26
        have E26 := Aside0.mk (show Below wc.heap.size wc wc26 from below_step E2.out hb)
        have Z6 := Aside0.mk hb.size
        replace R2 := Aside0.mk (Kd.R_below R2.out hb)
        clear hb
        refine hK.out _ _ ⟨(blk_cell (blk_below BC2.out E26.out) 0).trans rfl, (blk_cell (blk_below BC2.out E26.out) 1).trans rfl⟩ (fun hHeld => ?_)
        clear hK K
        refine norm_ (a' := ?_) ?_ ?_
        rotate_left
        · show Act.put _ (some 20) _ = _
          simp only [Act.put, List.setIfInBounds_toArray, List.set_cons_zero, List.set_cons_succ, i64_w, i32_w]
          rfl
        refine pure_ (i := 7) (N := some 21) (v := ?_) (a' := ?_) #[true, true, true, true, true, true, true, true, false, false] rfl rfl (any_of HT_.out (by kernel_rfl)) (fun _ _ _ h => h) (Or.inl ⟨by rfl, ?_⟩) ?_ ?_
        rotate_left
        · intro w'
          go_simp
          with_reducible rfl
        rotate_left
        · simp only [Act.put, List.setIfInBounds_toArray, List.set_cons_zero, List.set_cons_succ, i64_w, i32_w]
          rfl
        refine one_ (i := 8) (N := some 6) #[true, true, true, true, true, true, true, true, true, false] rfl rfl (one_of HT_.out (by kernel_rfl)) (by decide) (fun K hK => ?_)
        refine box_step (by rfl) (N := 6) rfl (cs := #[.slice none 0 0, .slice none 0 0]) (t := 56) (by first | (go_simp; done) | (go_simp; rfl)) ?_
        intro g6 h6 wc268 hb6 hb
        have H8 := Aside0.mk hb6
        have N8 := Aside0.mk (show g6 = wc26.heap.size ∧ g6 < wc268.heap.size from ⟨h6, blk_lt hb6⟩)
        clear hb6 h6
        have E268 := Aside0.mk (show Below wc.heap.size wc wc268 from below_step E26.out hb)
        have Z8 := Aside0.mk hb.size
        replace R2 := Aside0.mk (Kd.R_below R2.out hb)
        replace H6 := Aside0.mk (blk_below H6.out hb)
        clear hb
        refine hK.out _ _ ⟨(blk_cell (blk_below BC2.out E268.out) 0).trans rfl, (blk_cell (blk_below BC2.out E268.out) 1).trans rfl⟩ (fun hHeld => ?_)
        clear hK K
        refine norm_ (a' := ?_) ?_ ?_
        rotate_left
        · show Act.put _ (some 6) _ = _
          simp only [Act.put, List.setIfInBounds_toArray, List.set_cons_zero, List.set_cons_succ, i64_w, i32_w]
          rfl
        exact norm_ (by first | (simp only [putAll, Act.put, List.setIfInBounds_toArray, List.set_cons_zero, List.set_cons_succ]; done) | (simp only [putAll, Act.put, List.setIfInBounds_toArray, List.set_cons_zero, List.set_cons_succ]; rfl)) (hCont ((A20, c20), gR, g6) _ ⟨Kd.R_mono R2.out (fun k hk => by have a1 := hk.1; have a2 := hk.2; have a3 := N6.out; have a4 := N8.out; have a5 := Z2.out; have a6 := Z6.out; have a7 := Z8.out; refine ⟨?_, ?_, ?_⟩ <;> first | omega | (simp only; omega)), H6.out, H8.out, by have a3 := N6.out; have a4 := N8.out; have a5 := Z2.out; have a6 := Z6.out; have a7 := Z8.out; first | omega | (simp only; omega), by have a3 := N6.out; have a4 := N8.out; have a5 := Z2.out; have a6 := Z6.out; have a7 := Z8.out; first | omega | (simp only; omega), by have a3 := N6.out; have a4 := N8.out; have a5 := Z2.out; have a6 := Z6.out; have a7 := Z8.out; first | omega | (simp only; omega), E268.out⟩)
      · skip
        refine box_step (by rfl) (N := 6) rfl (cs := #[.slice none 0 0, .slice none 0 0]) (t := 56) (by first | (go_simp; done) | (go_simp; rfl)) ?_
        intro g6 h6 wc28 hb6 hb
        have H8 := Aside0.mk hb6
        have N8 := Aside0.mk (show g6 = wc2.heap.size ∧ g6 < wc28.heap.size from ⟨h6, blk_lt hb6⟩)
        clear hb6 h6
        have E28 := Aside0.mk (show Below wc.heap.size wc wc28 from below_step E2.out hb)
        have Z8 := Aside0.mk hb.size
        replace R2 := Aside0.mk (Kd.R_below R2.out hb)
        clear hb
        refine hK.out _ _ ⟨(blk_cell (blk_below BC2.out E28.out) 0).trans rfl, (blk_cell (blk_below BC2.out E28.out) 1).trans rfl⟩ (fun hHeld => ?_)
        clear hK K
        refine norm_ (a' := ?_) ?_ ?_
        rotate_left
        · show Act.put _ (some 6) _ = _
          simp only [Act.put, List.setIfInBounds_toArray, List.set_cons_zero, List.set_cons_succ, i64_w, i32_w]
          rfl
        refine one_ (i := 6) (N := some 20) #[true, true, true, true, true, true, true, false, true, false] rfl rfl (one_of HT_.out (by kernel_rfl)) (by decide) (fun K hK => ?_)
        refine event_step (by rfl) (w1 := wc28.alloc (Obj.cells (madeCells #[Value.slice none 0 0] outer.length) 22)) (v := .slice (some ⟨wc28.heap.size, 0, none⟩) outer.length outer.length) ?_ ?_
        · have hmk := print_make_of (P := Tryd.prog) 51 22 (.slice none 0 0) 24 Tryd.underlying51 (by kernel_rfl) rfl (by omega) outer.length (by have := HL.out.1; omega) wc28
          go_simp
        obtain ⟨wc286, hwc286⟩ : ∃ W, W = wc28.alloc (Obj.cells (madeCells #[Value.slice none 0 0] outer.length) 22) := ⟨_, rfl⟩
        obtain ⟨gR, hgR⟩ : ∃ g, g = wc28.heap.size := ⟨_, rfl⟩
        rw [← hwc286, ← hgR]
        have hb : Below wc28.heap.size wc28 wc286 := by rw [hwc286]; exact below_alloc (Below.refl _ _) _
        have H6 := Aside0.mk (show wc286.heap[gR]? = some (.cells (madeCells #[.slice none 0 0] outer.length) 22 (0, 0)) by rw [hwc286, hgR]; exact blk_new _ _)
        have N6 := Aside0.mk (show gR = wc28.heap.size ∧ gR < wc286.heap.size from ⟨hgR, blk_lt H6.out⟩)
        clear hgR hwc286
        have E286 := Aside0.mk (show Below wc.heap.size wc wc286 from below_step E28.out hb)
        have Z6 := Aside0.mk hb.size
        replace R2 := Aside0.mk (Kd.R_below R2.out hb)
        replace H8 := Aside0.mk (blk_below H8.out hb)
        clear hb
        refine hK.out _ _ ⟨(blk_cell (blk_below BC2.out E286.out) 0).trans rfl, (blk_cell (blk_below BC2.out E286.out) 1).trans rfl⟩ (fun hHeld => ?_)
        clear hK K
        refine norm_ (a' := ?_) ?_ ?_
        rotate_left
        · show Act.put _ (some 20) _ = _
          simp only [Act.put, List.setIfInBounds_toArray, List.set_cons_zero, List.set_cons_succ, i64_w, i32_w]
          rfl
        refine pure_ (i := 7) (N := some 21) (v := ?_) (a' := ?_) #[true, true, true, true, true, true, true, true, true, false] rfl rfl (any_of HT_.out (by kernel_rfl)) (fun _ _ _ h => h) (Or.inl ⟨by rfl, ?_⟩) ?_ ?_
        rotate_left
        · intro w'
          go_simp
          with_reducible rfl
        rotate_left
        · simp only [Act.put, List.setIfInBounds_toArray, List.set_cons_zero, List.set_cons_succ, i64_w, i32_w]
          rfl
        exact norm_ (by first | (simp only [putAll, Act.put, List.setIfInBounds_toArray, List.set_cons_zero, List.set_cons_succ]; done) | (simp only [putAll, Act.put, List.setIfInBounds_toArray, List.set_cons_zero, List.set_cons_succ]; rfl)) (hCont ((A20, c20), gR, g6) _ ⟨Kd.R_mono R2.out (fun k hk => by have a1 := hk.1; have a2 := hk.2; have a3 := N6.out; have a4 := N8.out; have a5 := Z2.out; have a6 := Z6.out; have a7 := Z8.out; refine ⟨?_, ?_, ?_⟩ <;> first | omega | (simp only; omega)), H6.out, H8.out, by have a3 := N6.out; have a4 := N8.out; have a5 := Z2.out; have a6 := Z6.out; have a7 := Z8.out; first | omega | (simp only; omega), by have a3 := N6.out; have a4 := N8.out; have a5 := Z2.out; have a6 := Z6.out; have a7 := Z8.out; first | omega | (simp only; omega), by have a3 := N6.out; have a4 := N8.out; have a5 := Z2.out; have a6 := Z6.out; have a7 := Z8.out; first | omega | (simp only; omega), E286.out⟩)
    · skip
      refine event_step (by rfl) (w1 := wc.alloc (Obj.cells (madeCells #[Value.slice none 0 0] outer.length) 22)) (v := .slice (some ⟨wc.heap.size, 0, none⟩) outer.length outer.length) ?_ ?_
      · have hmk := print_make_of (P := Tryd.prog) 51 22 (.slice none 0 0) 24 Tryd.underlying51 (by kernel_rfl) rfl (by omega) outer.length (by have := HL.out.1; omega) wc
        go_simp
      obtain ⟨wc6, hwc6⟩ : ∃ W, W = wc.alloc (Obj.cells (madeCells #[Value.slice none 0 0] outer.length) 22) := ⟨_, rfl⟩
      obtain ⟨gR, hgR⟩ : ∃ g, g = wc.heap.size := ⟨_, rfl⟩
      rw [← hwc6, ← hgR]
      have hb : Below wc.heap.size wc wc6 := by rw [hwc6]; exact below_alloc (Below.refl _ _) _
      have H6 := Aside0.mk (show wc6.heap[gR]? = some (.cells (madeCells #[.slice none 0 0] outer.length) 22 (0, 0)) by rw [hwc6, hgR]; exact blk_new _ _)
      have N6 := Aside0.mk (show gR = wc.heap.size ∧ gR < wc6.heap.size from ⟨hgR, blk_lt H6.out⟩)
      clear hgR hwc6
      have E6 := Aside0.mk (show Below wc.heap.size wc wc6 from hb)
      have Z6 := Aside0.mk hb.size
      clear hb
      refine hK.out _ _ ⟨(blk_cell (blk_below BC2.out E6.out) 0).trans rfl, (blk_cell (blk_below BC2.out E6.out) 1).trans rfl⟩ (fun hHeld => ?_)
      clear hK K
      refine norm_ (a' := ?_) ?_ ?_
      rotate_left
      · show Act.put _ (some 20) _ = _
        simp only [Act.put, List.setIfInBounds_toArray, List.set_cons_zero, List.set_cons_succ, i64_w, i32_w]
        rfl
      refine two_ (i := 2) (j := 8) (Ni := some 16) (Nj := some 6) #[true, true, true, true, true, true, true, false, false, false] #[true, true, false, true, true, true, true, false, true, false] rfl rfl rfl rfl (two_of HT_.out (by kernel_rfl)) (by decide) (by decide) (fun K hK => ?_) (fun K hK => ?_)
      · skip
        refine goes_ Tryd.func31 (by kernel_rfl) rfl #[.slice A1 inner.length c1] (by rfl) rfl rfl (by (try simp only [List.map_toArray, List.map_cons, List.map_nil]); rfl) ?_
        refine (slices_Clone_int_int.calls A1 c1 inner inner wc6 (Kd.C_below HI.out (below_step LC.out E6.out)) HC.out.2.1 HCL.out).mono ?_
        rintro e wc62 ⟨v0, rfl, hR, hb⟩; obtain ⟨A20, c20, e20⟩ := Kd.R_slice hR; subst e20
        have R2 := Aside0.mk (Kd.R_mono (ok' := fun k => wc6.heap.size ≤ k ∧ k < wc62.heap.size) (Kd.R_lower (Kd.R_bound hR) (below_step LC.out E6.out).size) (fun k hk => ⟨hk.2.1, hk.2.2.1⟩))
        clear hR
        refine ⟨_, rfl, ?_⟩
        have E62 := Aside0.mk (show Below wc.heap.size wc wc62 from below_step E6.out hb)
        have Z2 := Aside0.mk hb.size
        replace H6 := Aside0.mk (blk_below H6.out hb)
        clear hb
        refine hK.out _ _ ⟨(blk_cell (blk_below BC2.out E62.out) 0).trans rfl, (blk_cell (blk_below BC2.out E62.out) 1).trans rfl⟩ (fun hHeld => ?_)
        clear hK K
        refine norm_ (a' := ?_) ?_ ?_
        rotate_left
        · show Act.put _ (some 16) _ = _
          simp only [Act.put, List.setIfInBounds_toArray, List.set_cons_zero, List.set_cons_succ, i64_w, i32_w]
          rfl
        refine pure_ (i := 7) (N := some 21) (v := ?_) (a' := ?_) #[true, true, true, true, true, true, true, true, false, false] rfl rfl (any_of HT_.out (by kernel_rfl)) (fun _ _ _ h => h) (Or.inl ⟨by rfl, ?_⟩) ?_ ?_
        rotate_left
        · intro w'
          go_simp
          with_reducible rfl
        rotate_left
        · simp only [Act.put, List.setIfInBounds_toArray, List.set_cons_zero, List.set_cons_succ, i64_w, i32_w]
          rfl
        refine one_ (i := 8) (N := some 6) #[true, true, true, true, true, true, true, true, true, false] rfl rfl (one_of HT_.out (by kernel_rfl)) (by decide) (fun K hK => ?_)
        refine box_step (by rfl) (N := 6) rfl (cs := #[.slice none 0 0, .slice none 0 0]) (t := 56) (by first | (go_simp; done) | (go_simp; rfl)) ?_
        intro g6 h6 wc628 hb6 hb
        have H8 := Aside0.mk hb6
        have N8 := Aside0.mk (show g6 = wc62.heap.size ∧ g6 < wc628.heap.size from ⟨h6, blk_lt hb6⟩)
        clear hb6 h6
        have E628 := Aside0.mk (show Below wc.heap.size wc wc628 from below_step E62.out hb)
        have Z8 := Aside0.mk hb.size
        replace H6 := Aside0.mk (blk_below H6.out hb)
        replace R2 := Aside0.mk (Kd.R_below R2.out hb)
        clear hb
        refine hK.out _ _ ⟨(blk_cell (blk_below BC2.out E628.out) 0).trans rfl, (blk_cell (blk_below BC2.out E628.out) 1).trans rfl⟩ (fun hHeld => ?_)
        clear hK K
        refine norm_ (a' := ?_) ?_ ?_
        rotate_left
        · show Act.put _ (some 6) _ = _
          simp only [Act.put, List.setIfInBounds_toArray, List.set_cons_zero, List.set_cons_succ, i64_w, i32_w]
          rfl
        exact norm_ (by first | (simp only [putAll, Act.put, List.setIfInBounds_toArray, List.set_cons_zero, List.set_cons_succ]; done) | (simp only [putAll, Act.put, List.setIfInBounds_toArray, List.set_cons_zero, List.set_cons_succ]; rfl)) (hCont ((A20, c20), gR, g6) _ ⟨Kd.R_mono R2.out (fun k hk => by have a1 := hk.1; have a2 := hk.2; have a3 := N6.out; have a4 := N8.out; have a5 := Z2.out; have a6 := Z6.out; have a7 := Z8.out; refine ⟨?_, ?_, ?_⟩ <;> first | omega | (simp only; omega)), H6.out, H8.out, by have a3 := N6.out; have a4 := N8.out; have a5 := Z2.out; have a6 := Z6.out; have a7 := Z8.out; first | omega | (simp only; omega), by have a3 := N6.out; have a4 := N8.out; have a5 := Z2.out; have a6 := Z6.out; have a7 := Z8.out; first | omega | (simp only; omega), by have a3 := N6.out; have a4 := N8.out; have a5 := Z2.out; have a6 := Z6.out; have a7 := Z8.out; first | omega | (simp only; omega), E628.out⟩)
      · skip
        refine box_step (by rfl) (N := 6) rfl (cs := #[.slice none 0 0, .slice none 0 0]) (t := 56) (by first | (go_simp; done) | (go_simp; rfl)) ?_
        intro g6 h6 wc68 hb6 hb
        have H8 := Aside0.mk hb6
        have N8 := Aside0.mk (show g6 = wc6.heap.size ∧ g6 < wc68.heap.size from ⟨h6, blk_lt hb6⟩)
        clear hb6 h6
        have E68 := Aside0.mk (show Below wc.heap.size wc wc68 from below_step E6.out hb)
        have Z8 := Aside0.mk hb.size
        replace H6 := Aside0.mk (blk_below H6.out hb)
        clear hb
        refine hK.out _ _ ⟨(blk_cell (blk_below BC2.out E68.out) 0).trans rfl, (blk_cell (blk_below BC2.out E68.out) 1).trans rfl⟩ (fun hHeld => ?_)
        clear hK K
        refine norm_ (a' := ?_) ?_ ?_
        rotate_left
        · show Act.put _ (some 6) _ = _
          simp only [Act.put, List.setIfInBounds_toArray, List.set_cons_zero, List.set_cons_succ, i64_w, i32_w]
          rfl
        refine one_ (i := 2) (N := some 16) #[true, true, true, true, true, true, true, false, true, false] rfl rfl (one_of HT_.out (by kernel_rfl)) (by decide) (fun K hK => ?_)
        refine goes_ Tryd.func31 (by kernel_rfl) rfl #[.slice A1 inner.length c1] (by rfl) rfl rfl (by (try simp only [List.map_toArray, List.map_cons, List.map_nil]); rfl) ?_
        refine (slices_Clone_int_int.calls A1 c1 inner inner wc68 (Kd.C_below HI.out (below_step LC.out E68.out)) HC.out.2.1 HCL.out).mono ?_
        rintro e wc682 ⟨v0, rfl, hR, hb⟩; obtain ⟨A20, c20, e20⟩ := Kd.R_slice hR; subst e20
        have R2 := Aside0.mk (Kd.R_mono (ok' := fun k => wc68.heap.size ≤ k ∧ k < wc682.heap.size) (Kd.R_lower (Kd.R_bound hR) (below_step LC.out E68.out).size) (fun k hk => ⟨hk.2.1, hk.2.2.1⟩))
        clear hR
        refine ⟨_, rfl, ?_⟩
        have E682 := Aside0.mk (show Below wc.heap.size wc wc682 from below_step E68.out hb)
        have Z2 := Aside0.mk hb.size
        replace H6 := Aside0.mk (blk_below H6.out hb)
        replace H8 := Aside0.mk (blk_below H8.out hb)
        clear hb
        refine hK.out _ _ ⟨(blk_cell (blk_below BC2.out E682.out) 0).trans rfl, (blk_cell (blk_below BC2.out E682.out) 1).trans rfl⟩ (fun hHeld => ?_)
        clear hK K
        refine norm_ (a' := ?_) ?_ ?_
        rotate_left
        · show Act.put _ (some 16) _ = _
          simp only [Act.put, List.setIfInBounds_toArray, List.set_cons_zero, List.set_cons_succ, i64_w, i32_w]
          rfl
        refine pure_ (i := 7) (N := some 21) (v := ?_) (a' := ?_) #[true, true, true, true, true, true, true, true, true, false] rfl rfl (any_of HT_.out (by kernel_rfl)) (fun _ _ _ h => h) (Or.inl ⟨by rfl, ?_⟩) ?_ ?_
        rotate_left
        · intro w'
          go_simp
          with_reducible rfl
        rotate_left
        · simp only [Act.put, List.setIfInBounds_toArray, List.set_cons_zero, List.set_cons_succ, i64_w, i32_w]
          rfl
        exact norm_ (by first | (simp only [putAll, Act.put, List.setIfInBounds_toArray, List.set_cons_zero, List.set_cons_succ]; done) | (simp only [putAll, Act.put, List.setIfInBounds_toArray, List.set_cons_zero, List.set_cons_succ]; rfl)) (hCont ((A20, c20), gR, g6) _ ⟨Kd.R_mono R2.out (fun k hk => by have a1 := hk.1; have a2 := hk.2; have a3 := N6.out; have a4 := N8.out; have a5 := Z2.out; have a6 := Z6.out; have a7 := Z8.out; refine ⟨?_, ?_, ?_⟩ <;> first | omega | (simp only; omega)), H6.out, H8.out, by have a3 := N6.out; have a4 := N8.out; have a5 := Z2.out; have a6 := Z6.out; have a7 := Z8.out; first | omega | (simp only; omega), by have a3 := N6.out; have a4 := N8.out; have a5 := Z2.out; have a6 := Z6.out; have a7 := Z8.out; first | omega | (simp only; omega), by have a3 := N6.out; have a4 := N8.out; have a5 := Z2.out; have a6 := Z6.out; have a7 := Z8.out; first | omega | (simp only; omega), E682.out⟩)
    · skip
      refine box_step (by rfl) (N := 6) rfl (cs := #[.slice none 0 0, .slice none 0 0]) (t := 56) (by first | (go_simp; done) | (go_simp; rfl)) ?_
      intro g6 h6 wc8 hb6 hb
      have H8 := Aside0.mk hb6
      have N8 := Aside0.mk (show g6 = wc.heap.size ∧ g6 < wc8.heap.size from ⟨h6, blk_lt hb6⟩)
      clear hb6 h6
      have E8 := Aside0.mk (show Below wc.heap.size wc wc8 from hb)
      have Z8 := Aside0.mk hb.size
      clear hb
      refine hK.out _ _ ⟨(blk_cell (blk_below BC2.out E8.out) 0).trans rfl, (blk_cell (blk_below BC2.out E8.out) 1).trans rfl⟩ (fun hHeld => ?_)
      clear hK K
      refine norm_ (a' := ?_) ?_ ?_
      rotate_left
      · show Act.put _ (some 6) _ = _
        simp only [Act.put, List.setIfInBounds_toArray, List.set_cons_zero, List.set_cons_succ, i64_w, i32_w]
        rfl
      refine two_ (i := 2) (j := 6) (Ni := some 16) (Nj := some 20) #[true, true, true, true, true, true, false, false, true, false] #[true, true, false, true, true, true, true, false, true, false] rfl rfl rfl rfl (two_of HT_.out (by kernel_rfl)) (by decide) (by decide) (fun K hK => ?_) (fun K hK => ?_)
      · skip
        refine goes_ Tryd.func31 (by kernel_rfl) rfl #[.slice A1 inner.length c1] (by rfl) rfl rfl (by (try simp only [List.map_toArray, List.map_cons, List.map_nil]); rfl) ?_
        refine (slices_Clone_int_int.calls A1 c1 inner inner wc8 (Kd.C_below HI.out (below_step LC.out E8.out)) HC.out.2.1 HCL.out).mono ?_
        rintro e wc82 ⟨v0, rfl, hR, hb⟩; obtain ⟨A20, c20, e20⟩ := Kd.R_slice hR; subst e20
        have R2 := Aside0.mk (Kd.R_mono (ok' := fun k => wc8.heap.size ≤ k ∧ k < wc82.heap.size) (Kd.R_lower (Kd.R_bound hR) (below_step LC.out E8.out).size) (fun k hk => ⟨hk.2.1, hk.2.2.1⟩))
        clear hR
        refine ⟨_, rfl, ?_⟩
        have E82 := Aside0.mk (show Below wc.heap.size wc wc82 from below_step E8.out hb)
        have Z2 := Aside0.mk hb.size
        replace H8 := Aside0.mk (blk_below H8.out hb)
        clear hb
        refine hK.out _ _ ⟨(blk_cell (blk_below BC2.out E82.out) 0).trans rfl, (blk_cell (blk_below BC2.out E82.out) 1).trans rfl⟩ (fun hHeld => ?_)
        clear hK K
        refine norm_ (a' := ?_) ?_ ?_
        rotate_left
        · show Act.put _ (some 16) _ = _
          simp only [Act.put, List.setIfInBounds_toArray, List.set_cons_zero, List.set_cons_succ, i64_w, i32_w]
          rfl
        refine one_ (i := 6) (N := some 20) #[true, true, true, true, true, true, true, false, true, false] rfl rfl (one_of HT_.out (by kernel_rfl)) (by decide) (fun K hK => ?_)
        refine event_step (by rfl) (w1 := wc82.alloc (Obj.cells (madeCells #[Value.slice none 0 0] outer.length) 22)) (v := .slice (some ⟨wc82.heap.size, 0, none⟩) outer.length outer.length) ?_ ?_
        · have hmk := print_make_of (P := Tryd.prog) 51 22 (.slice none 0 0) 24 Tryd.underlying51 (by kernel_rfl) rfl (by omega) outer.length (by have := HL.out.1; omega) wc82
          go_simp
        obtain ⟨wc826, hwc826⟩ : ∃ W, W = wc82.alloc (Obj.cells (madeCells #[Value.slice none 0 0] outer.length) 22) := ⟨_, rfl⟩
        obtain ⟨gR, hgR⟩ : ∃ g, g = wc82.heap.size := ⟨_, rfl⟩
        rw [← hwc826, ← hgR]
        have hb : Below wc82.heap.size wc82 wc826 := by rw [hwc826]; exact below_alloc (Below.refl _ _) _
        have H6 := Aside0.mk (show wc826.heap[gR]? = some (.cells (madeCells #[.slice none 0 0] outer.length) 22 (0, 0)) by rw [hwc826, hgR]; exact blk_new _ _)
        have N6 := Aside0.mk (show gR = wc82.heap.size ∧ gR < wc826.heap.size from ⟨hgR, blk_lt H6.out⟩)
        clear hgR hwc826
        have E826 := Aside0.mk (show Below wc.heap.size wc wc826 from below_step E82.out hb)
        have Z6 := Aside0.mk hb.size
        replace H8 := Aside0.mk (blk_below H8.out hb)
        replace R2 := Aside0.mk (Kd.R_below R2.out hb)
        clear hb
        refine hK.out _ _ ⟨(blk_cell (blk_below BC2.out E826.out) 0).trans rfl, (blk_cell (blk_below BC2.out E826.out) 1).trans rfl⟩ (fun hHeld => ?_)
        clear hK K
        refine norm_ (a' := ?_) ?_ ?_
        rotate_left
        · show Act.put _ (some 20) _ = _
          simp only [Act.put, List.setIfInBounds_toArray, List.set_cons_zero, List.set_cons_succ, i64_w, i32_w]
          rfl
        refine pure_ (i := 7) (N := some 21) (v := ?_) (a' := ?_) #[true, true, true, true, true, true, true, true, true, false] rfl rfl (any_of HT_.out (by kernel_rfl)) (fun _ _ _ h => h) (Or.inl ⟨by rfl, ?_⟩) ?_ ?_
        rotate_left
        · intro w'
          go_simp
          with_reducible rfl
        rotate_left
        · simp only [Act.put, List.setIfInBounds_toArray, List.set_cons_zero, List.set_cons_succ, i64_w, i32_w]
          rfl
        exact norm_ (by first | (simp only [putAll, Act.put, List.setIfInBounds_toArray, List.set_cons_zero, List.set_cons_succ]; done) | (simp only [putAll, Act.put, List.setIfInBounds_toArray, List.set_cons_zero, List.set_cons_succ]; rfl)) (hCont ((A20, c20), gR, g6) _ ⟨Kd.R_mono R2.out (fun k hk => by have a1 := hk.1; have a2 := hk.2; have a3 := N6.out; have a4 := N8.out; have a5 := Z2.out; have a6 := Z6.out; have a7 := Z8.out; refine ⟨?_, ?_, ?_⟩ <;> first | omega | (simp only; omega)), H6.out, H8.out, by have a3 := N6.out; have a4 := N8.out; have a5 := Z2.out; have a6 := Z6.out; have a7 := Z8.out; first | omega | (simp only; omega), by have a3 := N6.out; have a4 := N8.out; have a5 := Z2.out; have a6 := Z6.out; have a7 := Z8.out; first | omega | (simp only; omega), by have a3 := N6.out; have a4 := N8.out; have a5 := Z2.out; have a6 := Z6.out; have a7 := Z8.out; first | omega | (simp only; omega), E826.out⟩)
      · skip
        refine event_step (by rfl) (w1 := wc8.alloc (Obj.cells (madeCells #[Value.slice none 0 0] outer.length) 22)) (v := .slice (some ⟨wc8.heap.size, 0, none⟩) outer.length outer.length) ?_ ?_
        · have hmk := print_make_of (P := Tryd.prog) 51 22 (.slice none 0 0) 24 Tryd.underlying51 (by kernel_rfl) rfl (by omega) outer.length (by have := HL.out.1; omega) wc8
          go_simp
        obtain ⟨wc86, hwc86⟩ : ∃ W, W = wc8.alloc (Obj.cells (madeCells #[Value.slice none 0 0] outer.length) 22) := ⟨_, rfl⟩
        obtain ⟨gR, hgR⟩ : ∃ g, g = wc8.heap.size := ⟨_, rfl⟩
        rw [← hwc86, ← hgR]
        have hb : Below wc8.heap.size wc8 wc86 := by rw [hwc86]; exact below_alloc (Below.refl _ _) _
        have H6 := Aside0.mk (show wc86.heap[gR]? = some (.cells (madeCells #[.slice none 0 0] outer.length) 22 (0, 0)) by rw [hwc86, hgR]; exact blk_new _ _)
        have N6 := Aside0.mk (show gR = wc8.heap.size ∧ gR < wc86.heap.size from ⟨hgR, blk_lt H6.out⟩)
        clear hgR hwc86
        have E86 := Aside0.mk (show Below wc.heap.size wc wc86 from below_step E8.out hb)
        have Z6 := Aside0.mk hb.size
        replace H8 := Aside0.mk (blk_below H8.out hb)
        clear hb
        refine hK.out _ _ ⟨(blk_cell (blk_below BC2.out E86.out) 0).trans rfl, (blk_cell (blk_below BC2.out E86.out) 1).trans rfl⟩ (fun hHeld => ?_)
        clear hK K
        refine norm_ (a' := ?_) ?_ ?_
        rotate_left
        · show Act.put _ (some 20) _ = _
          simp only [Act.put, List.setIfInBounds_toArray, List.set_cons_zero, List.set_cons_succ, i64_w, i32_w]
          rfl
        refine one_ (i := 2) (N := some 16) #[true, true, true, true, true, true, true, false, true, false] rfl rfl (one_of HT_.out (by kernel_rfl)) (by decide) (fun K hK => ?_)
        refine goes_ Tryd.func31 (by kernel_rfl) rfl #[.slice A1 inner.length c1] (by rfl) rfl rfl (by (try simp only [List.map_toArray, List.map_cons, List.map_nil]); rfl) ?_
        refine (slices_Clone_int_int.calls A1 c1 inner inner wc86 (Kd.C_below HI.out (below_step LC.out E86.out)) HC.out.2.1 HCL.out).mono ?_
        rintro e wc862 ⟨v0, rfl, hR, hb⟩; obtain ⟨A20, c20, e20⟩ := Kd.R_slice hR; subst e20
        have R2 := Aside0.mk (Kd.R_mono (ok' := fun k => wc86.heap.size ≤ k ∧ k < wc862.heap.size) (Kd.R_lower (Kd.R_bound hR) (below_step LC.out E86.out).size) (fun k hk => ⟨hk.2.1, hk.2.2.1⟩))
        clear hR
        refine ⟨_, rfl, ?_⟩
        have E862 := Aside0.mk (show Below wc.heap.size wc wc862 from below_step E86.out hb)
        have Z2 := Aside0.mk hb.size
        replace H8 := Aside0.mk (blk_below H8.out hb)
        replace H6 := Aside0.mk (blk_below H6.out hb)
        clear hb
        refine hK.out _ _ ⟨(blk_cell (blk_below BC2.out E862.out) 0).trans rfl, (blk_cell (blk_below BC2.out E862.out) 1).trans rfl⟩ (fun hHeld => ?_)
        clear hK K
        refine norm_ (a' := ?_) ?_ ?_
        rotate_left
        · show Act.put _ (some 16) _ = _
          simp only [Act.put, List.setIfInBounds_toArray, List.set_cons_zero, List.set_cons_succ, i64_w, i32_w]
          rfl
        refine pure_ (i := 7) (N := some 21) (v := ?_) (a' := ?_) #[true, true, true, true, true, true, true, true, true, false] rfl rfl (any_of HT_.out (by kernel_rfl)) (fun _ _ _ h => h) (Or.inl ⟨by rfl, ?_⟩) ?_ ?_
        rotate_left
        · intro w'
          go_simp
          with_reducible rfl
        rotate_left
        · simp only [Act.put, List.setIfInBounds_toArray, List.set_cons_zero, List.set_cons_succ, i64_w, i32_w]
          rfl
        exact norm_ (by first | (simp only [putAll, Act.put, List.setIfInBounds_toArray, List.set_cons_zero, List.set_cons_succ]; done) | (simp only [putAll, Act.put, List.setIfInBounds_toArray, List.set_cons_zero, List.set_cons_succ]; rfl)) (hCont ((A20, c20), gR, g6) _ ⟨Kd.R_mono R2.out (fun k hk => by have a1 := hk.1; have a2 := hk.2; have a3 := N6.out; have a4 := N8.out; have a5 := Z2.out; have a6 := Z6.out; have a7 := Z8.out; refine ⟨?_, ?_, ?_⟩ <;> first | omega | (simp only; omega)), H6.out, H8.out, by have a3 := N6.out; have a4 := N8.out; have a5 := Z2.out; have a6 := Z6.out; have a7 := Z8.out; first | omega | (simp only; omega), by have a3 := N6.out; have a4 := N8.out; have a5 := Z2.out; have a6 := Z6.out; have a7 := Z8.out; first | omega | (simp only; omega), by have a3 := N6.out; have a4 := N8.out; have a5 := Z2.out; have a6 := Z6.out; have a7 := Z8.out; first | omega | (simp only; omega), E862.out⟩)
  rintro ⟨⟨At, ct⟩, gR, g6⟩ wd ⟨hR, hgr, hb6, hgne, hgs, hgs6, hb⟩
  simp only at hR hgr hb6 hgne hgs hgs6
  have B6 := Aside0.mk hb6
  have RD := Aside0.mk hR
  have GD := Aside0.mk hgr
  have LD := Aside0.mk (below_step LC.out hb)
  have BD2 := Aside0.mk (blk_below BC2.out hb)
  have BD5 := Aside0.mk (blk_below BC5.out hb)
  have SD := Aside0.mk (Kd.S_below SC.out hb)
  have NE := Aside0.mk (show g2 ≠ g6 ∧ g5 ≠ g6 ∧ gR ≠ g6 ∧ g5 ≠ gR ∧ w7.heap.size ≤ g5 ∧ w7.heap.size ≤ gR ∧ w.heap.size ≤ g6 ∧ w.heap.size ≤ gR ∧ w7.heap.size ≤ g6 by
    have h1 := blk_lt BC2.out; have h2 := ZC.out; have h3 := LC.out.size; refine ⟨?_, ?_, ?_, ?_, ?_, ?_, ?_, ?_, ?_⟩ <;> omega)
  clear hR hgr hgs hgs6 hgne hb6 hb LC BC2 BC5 SC
  have hHeld : wd.cell? ⟨g2, 0, none⟩ = some (.slice A0 outer.length c0) ∧ wd.cell? ⟨g2, 1, none⟩ = some (.slice A1 inner.length c1) := ⟨(blk_cell BD2.out 0).trans rfl, (blk_cell BD2.out 1).trans rfl⟩
  refine norm_ (a' := ?_) ?_ ?_
  rotate_left
  · simp only [putAll, Act.put, List.setIfInBounds_toArray, List.set_cons_zero, List.set_cons_succ]
    rfl
  refine one_ (i := 9) (N := none) #[true, true, true, true, true, true, true, true, true, true] rfl rfl (one_of HT_.out (by kernel_rfl)) (by decide) (fun K hK => ?_)
  have hs0 : wd.cell? ⟨g6, 0, none⟩ = some (.slice none 0 0) := (blk_cell B6.out 0).trans rfl
  have hs1 : wd.cell? ⟨g6, 1, none⟩ = some (.slice none 0 0) := (blk_cell B6.out 1).trans rfl
  have hf0 := blk_frozen B6.out 0
  have hf1 := blk_frozen B6.out 1
  refine skip_ (w1 := (wd.setCell ⟨g6, 0, none⟩ (.slice At inner.length ct)).setCell ⟨g6, 1, none⟩ (.slice (some ⟨gR, 0, none⟩) outer.length outer.length)) (by rfl) rfl ?_ ?_
  · go_simp
  clear hs0 hs1 hf0 hf1
  have BF6 := Aside0.mk (show ((wd.setCell ⟨g6, 0, none⟩ (.slice At inner.length ct)).setCell ⟨g6, 1, none⟩ (.slice (some ⟨gR, 0, none⟩) outer.length outer.length)).heap[g6]? = some (.cells #[.slice At inner.length ct, .slice (some ⟨gR, 0, none⟩) outer.length outer.length] 56 (0, 0)) from blk_put (blk_put B6.out 0 _ rfl) 1 _ rfl)
  have BF2 := Aside0.mk (blk_far (blk_far BD2.out (p := ⟨g6, 0, none⟩) NE.out.1 (.slice At inner.length ct)) (p := ⟨g6, 1, none⟩) NE.out.1 (.slice (some ⟨gR, 0, none⟩) outer.length outer.length))
  have BF5 := Aside0.mk (blk_far (blk_far BD5.out (p := ⟨g6, 0, none⟩) NE.out.2.1 (.slice At inner.length ct)) (p := ⟨g6, 1, none⟩) NE.out.2.1 (.slice (some ⟨gR, 0, none⟩) outer.length outer.length))
  have GF := Aside0.mk (blk_far (blk_far GD.out (p := ⟨g6, 0, none⟩) NE.out.2.2.1 (.slice At inner.length ct)) (p := ⟨g6, 1, none⟩) NE.out.2.2.1 (.slice (some ⟨gR, 0, none⟩) outer.length outer.length))
  have LF := Aside0.mk (show Below w.heap.size w ((wd.setCell ⟨g6, 0, none⟩ (.slice At inner.length ct)).setCell ⟨g6, 1, none⟩ (.slice (some ⟨gR, 0, none⟩) outer.length outer.length)) from (LD.out.setCell NE.out.2.2.2.2.2.2.1 _).setCell NE.out.2.2.2.2.2.2.1 _)
  have RF := Aside0.mk (Kd.R_far (p := ⟨g6, 1, none⟩) (Kd.R_far (p := ⟨g6, 0, none⟩) RD.out (fun k hk => hk.2.1) (.slice At inner.length ct)) (fun k hk => hk.2.1) (.slice (some ⟨gR, 0, none⟩) outer.length outer.length))
  have SF := Aside0.mk (Kd.S_far (p := ⟨g6, 1, none⟩) (Kd.S_far (p := ⟨g6, 0, none⟩) SD.out (fun k hk e => by have h1 := hk.2; have h2 := NE.out; simp only at e; omega) (.slice At inner.length ct)) (fun k hk e => by have h1 := hk.2; have h2 := NE.out; simp only at e; omega) (.slice (some ⟨gR, 0, none⟩) outer.length outer.length))
  refine hK.out _ _ ⟨(blk_cell BF2.out 0).trans rfl, (blk_cell BF2.out 1).trans rfl⟩ (fun hHeld => ?_)
  clear hK K
  refine done_ (done_of HT_.out (by kernel_rfl)) ?_
  clear hHeld B6 GD RD SD BD2 BD5 LD
  generalize (wd.setCell ⟨g6, 0, none⟩ (.slice At inner.length ct)).setCell ⟨g6, 1, none⟩ (.slice (some ⟨gR, 0, none⟩) outer.length outer.length) = wf at BF6 BF2 BF5 GF LF RF SF ⊢
  have hST : impl_grow.St wf w.heap.size g5 gR (fun k => k = gR) (fun k => w2.heap.size ≤ k ∧ k < w7.heap.size) (List.replicate outer.length []) [] := ⟨impl_tableaux.rowsAt_new rfl NE.out.2.2.2.2.2.2.2.1 GF.out, ⟨_, BF5.out, SF.out⟩, fun k hk h2 => by have := NE.out; omega, NE.out.2.2.2.1, fun h => by have := NE.out; omega, HG5.out, fun k hk => by
      have h1 := blk_lt GF.out; have h2 := blk_lt BF5.out; have h3 := NE.out; rcases hk with h | h <;> omega, fun v hv => by
      rw [BF5.out] at hv
      obtain rfl : Value.slice A7 n7 c7 = v := by simpa using hv
      exact VN.out⟩
  have hM : ∀ k, impl_grow.Mg g5 (fun k => k = gR) (fun k => w2.heap.size ≤ k ∧ k < w7.heap.size) k → w.heap.size ≤ k := fun k hk => by
    have h1 := NE.out; have h2 := HG5.out; have h3 := Z2.out
    rcases hk with h | h | h <;> omega
  have hRk : ∀ k, (k ≠ gR ∧ k ≠ g6 ∧ wc.heap.size ≤ k) → ¬ impl_grow.Mg g5 (fun k => k = gR) (fun k => w2.heap.size ≤ k ∧ k < w7.heap.size) k := fun k hk h => by
    have h1 := ZC.out; have h2 := NE.out
    rcases h with h | h | h <;> omega
  have hgrow := (impl_grow.ok w.heap.size g5 gR outer inner A0 A1 At c0 c1 ct HC.out.1 HC.out.2.1 (Kd.R_reads' RF.out).2.1 HBW.out.1 HBW.out.2.1 HL.out.1 HL.out.2.1 ws HBW.out.2.2) 1 (List.replicate outer.length []) [] _ _ wf A2 c2 hST (by simp) (fun r hr => by rw [(List.mem_replicate.1 hr).2]; have := HL.out.2.2.2; simp; omega) (by omega) (by have := HL.out.2.2.1; omega) (by have := HGL.out; simpa using this)
    (Kd.C_kept_came (Kd.heap_int _) HO.out LF.out hM) (Kd.C_kept_came (Kd.heap_int _) HI.out LF.out hM) (Kd.C_kept_own RF.out hRk) (Kd.C_kept_came (Kd.heap_int _) HW.out LF.out hM) HC.out.2.2
  have HGROW := Aside0.mk hgrow
  clear hgrow hST hM hRk
  have x2 := (blk_cell BF2.out 0).trans rfl
  have y2 := (blk_cell BF2.out 1).trans rfl
  have x6 := (blk_cell BF6.out 0).trans rfl
  have y6 := (blk_cell BF6.out 1).trans rfl
  go_wp2_with (first
    | ((with_reducible refine gate_callee (f := 137) rfl ?_); refine goesL_ (some 26) rfl rfl Tryd.func137 (by kernel_rfl) rfl #[.agg #[.slice A0 outer.length c0, .slice A1 inner.length c1], .agg #[.slice At inner.length ct, .slice (some ⟨gR, 0, none⟩) outer.length outer.length], .int .i64 1, .slice A2 ws.length c2, .func (.func 138) #[] #[.pointer (some ⟨g5, 0, none⟩)]] rfl (by (try simp only [List.map_toArray, List.map_cons, List.map_nil]); rfl) ?_; refine HGROW.out.mono ?_; rintro e wg ⟨rfl, hD⟩; refine ⟨_, rfl, ?_⟩; obtain ⟨T', O', hst, hk, hM, hb⟩ := hD; obtain ⟨vs, hvs, hS⟩ := hst.out; have hmd := hst.made vs hvs; have SG := Aside0.mk hS; have BG5 := Aside0.mk hvs; have MG := Aside0.mk hmd; have NG := Aside0.mk (And.intro hst.goO hM); have LG := Aside0.mk (show Below w.heap.size w wg from LF.out.trans hb); clear hst hk hM hb hvs hS hmd x2 y2 x6 y6; rw [List.nil_append] at SG; obtain ⟨gs, cs, hvs2, hOg⟩ := impl_tableaux.S_at SG.out MG.out; subst hvs2; have HOG := Aside0.mk (show g5 ≠ gs from fun e => NG.out.1 (e ▸ hOg)); clear hOg; have x5 := (blk_cell BG5.out 0).trans rfl)
    | ((with_reducible refine gate_callee (f := 139) rfl ?_); refine goesL_ (some 28) rfl rfl Tryd.func139 (by kernel_rfl) rfl #[.slice (some ⟨gs, 0, none⟩) (Gr.growL outer inner ws (List.replicate outer.length []) 1).length cs, .func (.func 140) #[] #[]] rfl (by (try simp only [List.map_toArray, List.map_cons, List.map_nil]); rfl) ?_; have hsort := (impl_tableaux_2.sort_S wg gs cs w.heap.size k O' _ SG.out HT.out.1 (by have := HGL.out; rw [List.length_map]; omega) (fun x hx => by obtain ⟨r, hr, rfl⟩ := List.mem_map.1 hx; exact HT.out.2 r hr)); rw [List.length_map] at hsort; refine hsort.mono ?_; clear hsort; rintro e wh ⟨rfl, ts', hperm, hpw, hS, hk, hb⟩; refine ⟨_, rfl, ?_⟩; have PH := Aside0.mk (And.intro hperm hpw); have SH := Aside0.mk hS; have LH := Aside0.mk (LG.out.trans hb); have BH5 := Aside0.mk (blk_kept BG5.out hk HOG.out); clear hperm hpw hS hk hb x5; have x5 := (blk_cell BH5.out 0).trans rfl))
  go_ret
  exact ⟨_, rfl, ⟨ts', PH.out.1, PH.out.2, Kd.S_mono SH.out (fun _ _ => trivial)⟩, LH.out⟩
def impl_tableaux.le (inner : List Int) (a b : List (List Int)) : Bool := decide (Go.Lib.compareBytes (Gr.txt inner a) (Gr.txt inner b) ≤ 0)
def impl_tableaux.all (outer inner ws : List Int) : List (List (List Int)) := Gr.growL outer inner ws (List.replicate outer.length []) 1
def impl_tableaux.sorted (outer inner ws : List Int) : List S56 := ((impl_tableaux.all outer inner ws).mergeSort (impl_tableaux.le inner)).map fun r => ⟨inner, r⟩
def impl_tableaux.fine (k : Nat) (outer inner ws : List Int) : Bool :=
  (outer.all (fun x => decide (0 ≤ x ∧ x ≤ 9)) && inner.all (fun x => decide (0 ≤ x ∧ x ≤ 9)) && decide (outer.length ≤ 1000) && decide (inner.length ≤ 1000) && ws.all (fun x => decide (0 ≤ x)) && decide (ws.length ≤ 900) && decide (impl_grow.total ws ≤ 1000) &&
    decide ((impl_tableaux.all outer inner ws).length < 2000000000)) && ((impl_TableauText.f k [] []).isSome && (impl_tableaux.all outer inner ws).all (fun r => decide ((impl_TableauText.f k inner r).map (fun t => t.data.toList) = some (Gr.txt inner r))) && decide (((impl_tableaux.all outer inner ws).map (Gr.txt inner)).Nodup))
def impl_tableaux.f (k : Nat) (l0_0 l0_1 l1 : List Int) : Option (List S56) :=
  (impl_sum.f k l1).bind fun s => (impl_CellCount.f k l0_0 l0_1).bind fun c => if s ≠ c then some [] else if impl_tableaux.fine k l0_0 l0_1 l1 = true then some (impl_tableaux.sorted l0_0 l0_1 l1) else none
theorem impl_tableaux.map_inj {α β : Type} (f : α → β) : ∀ l : List α, (l.map f).Nodup → ∀ a b, a ∈ l → b ∈ l → f a = f b → a = b
  | [], _, _, _, ha, _, _ => by cases ha
  | x :: l, h, a, b, ha, hb, e => by
    rw [List.map_cons, List.nodup_cons] at h
    rcases List.mem_cons.1 ha with ea | ha' <;> rcases List.mem_cons.1 hb with eb | hb'
    · rw [ea, eb]
    · exact absurd (show f x ∈ l.map f by rw [← ea, e]; exact List.mem_map_of_mem hb') h.1
    · exact absurd (show f x ∈ l.map f by rw [← eb, ← e]; exact List.mem_map_of_mem ha') h.1
    · exact impl_tableaux.map_inj f l h.2 a b ha' hb' e
theorem impl_tableaux.callsS (k : Nat) (A0_0 : Option Addr) (c0_0 : Nat) (l0_0 : List Int) (A0_1 : Option Addr) (c0_1 : Nat) (l0_1 : List Int) (A1 : Option Addr) (c1 : Nat) (l1 : List Int) (r : List S56) (w : World) (hr0_0 : Kd.C (Kd.int .i64) w A0_0 l0_0.length l0_0) (hc0_0 : l0_0.length ≤ c0_0) (hr0_1 : Kd.C (Kd.int .i64) w A0_1 l0_1.length l0_1) (hc0_1 : l0_1.length ≤ c0_1) (hr1 : Kd.C (Kd.int .i64) w A1 l1.length l1) (hc1 : l1.length ≤ c1) (h : impl_tableaux.f k l0_0 l0_1 l1 = some r) :
    Calls Tryd.prog 99 #[.agg #[.slice A0_0 l0_0.length c0_0, .slice A0_1 l0_1.length c0_1], .slice A1 l1.length c1] w fun e w' => ∃ v0_ : Value, e = .returned (v0_) ∧ Kd.S k56 56 w' w.heap.size (fun _ => True) v0_ r ∧ Below w.heap.size w w' := by
  unfold impl_tableaux.f at h
  obtain ⟨s, hs, h⟩ := Option.bind_eq_some_iff.1 h
  obtain ⟨c, hcc, h⟩ := Option.bind_eq_some_iff.1 h
  by_cases e : s ≠ c
  · rw [if_pos e] at h
    obtain rfl := Option.some.inj h
    exact impl_tableaux.none_calls k A0_0 c0_0 l0_0 A0_1 c0_1 l0_1 A1 c1 l1 s c w hr0_0 hc0_0 hr0_1 hc0_1 hr1 hc1 hs hcc e
  · rw [if_neg e] at h
    by_cases hf : impl_tableaux.fine k l0_0 l0_1 l1 = true
    · rw [if_pos hf] at h
      obtain rfl := Option.some.inj h
      unfold impl_tableaux.fine at hf
      simp only [Bool.and_eq_true, List.all_eq_true, decide_eq_true_eq] at hf
      obtain ⟨⟨⟨⟨⟨⟨⟨⟨f1, f2⟩, f3⟩, f4⟩, f5⟩, f6⟩, f7⟩, f8⟩, ⟨f9, f10⟩, f11⟩ := hf
      refine (impl_tableaux.some_calls k A0_0 c0_0 l0_0 A0_1 c0_1 l0_1 A1 c1 l1 s c w hr0_0 hc0_0 hr0_1 hc0_1 hr1 hc1 hs hcc (Decidable.not_not.1 e) f1 f2 f3 f4 f5 f6 f7 f8 (Option.isSome_iff_exists.1 f9) (fun r hr => by
        obtain ⟨t, ht, _⟩ := Option.map_eq_some_iff.1 (f10 r hr)
        exact ⟨t, ht⟩)).mono ?_
      rintro en w' ⟨v0, he, ⟨ts', hperm, hpw, hS⟩, hb⟩
      refine ⟨v0, he, ?_, hb⟩
      have hmem : ∀ x ∈ ts', ∃ r ∈ impl_tableaux.all l0_0 l0_1 l1, x = ⟨l0_1, r⟩ := fun x hx => by
        obtain ⟨r, hr, rfl⟩ := List.mem_map.1 (hperm.subset hx)
        exact ⟨r, hr, rfl⟩
      have hts : ts' = (ts'.map fun x => x.f1).map fun r => (⟨l0_1, r⟩ : S56) := by
        rw [List.map_map]
        conv => lhs; rw [← List.map_id ts']
        apply List.map_congr_left
        intro x hx
        obtain ⟨r, _, rfl⟩ := hmem x hx
        rfl
      have hp2 : (ts'.map fun x => x.f1).Perm (impl_tableaux.all l0_0 l0_1 l1) := by
        have := hperm.map (fun x => x.f1)
        rw [List.map_map] at this
        rw [show ((fun x : S56 => x.f1) ∘ fun r => (⟨l0_1, r⟩ : S56)) = id from rfl, List.map_id] at this
        exact this
      have hsrt : (ts'.map fun x => x.f1) = (impl_tableaux.all l0_0 l0_1 l1).mergeSort (impl_tableaux.le l0_1) := by
        refine Gr.sort_unique (impl_tableaux.le l0_1) (fun a b c h1 h2 => ?_) (fun a b => ?_) _ _ hp2 ?_ (fun a b ha hb h1 h2 => ?_)
        · exact decide_eq_true (strings_Compare.cb_trans _ _ _ (of_decide_eq_true h1) (of_decide_eq_true h2))
        · have h1 := strings_Compare.cb_swap (Gr.txt l0_1 a) (Gr.txt l0_1 b)
          unfold impl_tableaux.le
          by_cases h2 : Go.Lib.compareBytes (Gr.txt l0_1 a) (Gr.txt l0_1 b) ≤ 0
          · simp [h2]
          · have h3 : Go.Lib.compareBytes (Gr.txt l0_1 b) (Gr.txt l0_1 a) ≤ 0 := by omega
            simp [h3]
        · rw [List.pairwise_map]
          refine List.Pairwise.imp_of_mem ?_ hpw
          intro a b ha hb hab
          obtain ⟨ra, hra, rfl⟩ := hmem a ha
          obtain ⟨rb, hrb, rfl⟩ := hmem b hb
          obtain ⟨ta, hta, ea⟩ := Option.map_eq_some_iff.1 (f10 ra hra)
          obtain ⟨tb, htb, eb⟩ := Option.map_eq_some_iff.1 (f10 rb hrb)
          have := hab ta tb hta htb
          rw [ea, eb] at this
          exact decide_eq_true this
        · have h3 := of_decide_eq_true h1
          have h4 := of_decide_eq_true h2
          have h5 := strings_Compare.cb_swap (Gr.txt l0_1 a) (Gr.txt l0_1 b)
          exact impl_tableaux.map_inj (Gr.txt l0_1) _ f11 a b ha hb (strings_Compare.cb_eq _ _ (by omega))
      rw [hts, hsrt] at hS
      exact hS
    · rw [if_neg hf] at h
      cases h
theorem impl_tableaux.calls (k : Nat) (A0_0 : Option Addr) (c0_0 : Nat) (l0_0 : List Int) (A0_1 : Option Addr) (c0_1 : Nat) (l0_1 : List Int) (A1 : Option Addr) (c1 : Nat) (l1 : List Int) (r : List S56) (w : World) (hr0_0 : Kd.C (Kd.int .i64) w A0_0 l0_0.length l0_0) (hc0_0 : l0_0.length ≤ c0_0) (hr0_1 : Kd.C (Kd.int .i64) w A0_1 l0_1.length l0_1) (hc0_1 : l0_1.length ≤ c0_1) (hr1 : Kd.C (Kd.int .i64) w A1 l1.length l1) (hc1 : l1.length ≤ c1) (h : impl_tableaux.f k l0_0 l0_1 l1 = some r) :
    Calls Tryd.prog 99 #[.agg #[.slice A0_0 l0_0.length c0_0, .slice A0_1 l0_1.length c0_1], .slice A1 l1.length c1] w fun e w' => ∃ v0_ : Value, e = .returned (v0_) ∧ Kd.R k56 56 w' w.heap.size (fun _ => True) v0_ r ∧ Below w.heap.size w w' :=
  (impl_tableaux.callsS k A0_0 c0_0 l0_0 A0_1 c0_1 l0_1 A1 c1 l1 r w hr0_0 hc0_0 hr0_1 hc0_1 hr1 hc1 h).mono fun _ _ ⟨v, he, hS, hb⟩ => ⟨v, he, Kd.S_R hS, hb⟩
def laws_eqIntS.l0 : Nat → List Int → List Int → Int → Option (Bool)
  | 0, _, _, _ => none
  | k + 1, x0, x1, x5 => if x5 < (x0.length : Int) then (if 0 ≤ x5 then (if x5 < (x1.length : Int) then (if (rd x0 x5) = (rd x1 x5) then (laws_eqIntS.l0 k x0 x1 (wrap64 (x5 + 1))) else (some false)) else (none)) else (none)) else (some true)
def laws_eqIntS.f (k : Nat) (l0 : List Int) (l1 : List Int) : Option (Bool) := if (l0.length : Int) = (l1.length : Int) then (laws_eqIntS.l0 k l0 l1 0) else (some false)
set_option maxHeartbeats 8000000 in
set_option maxRecDepth 100000 in
theorem laws_eqIntS.calls (k : Nat) (A0 : Option Addr) (c0 : Nat) (l0 : List Int) (A1 : Option Addr) (c1 : Nat) (l1 : List Int) (r : Bool) (w : World) (hr0 : Kd.C (Kd.int .i64) w A0 l0.length l0) (hc0 : l0.length ≤ c0) (hr1 : Kd.C (Kd.int .i64) w A1 l1.length l1) (hc1 : l1.length ≤ c1) (h : laws_eqIntS.f k l0 l1 = some r) :
  Calls Tryd.prog 11 #[.slice A0 l0.length c0, .slice A1 l1.length c1] w fun e w' => e = .returned (.bool r) ∧ Drawn0 w w' := by
 have HR0 := Aside0.mk hr0
 have HC0 := Aside0.mk hc0
 clear hr0 hc0
 have HR1 := Aside0.mk hr1
 have HC1 := Aside0.mk hc1
 clear hr1 hc1
 have H : (if (l0.length : Int) = (l1.length : Int) then (laws_eqIntS.l0 k l0 l1 0) else (some false)) = some r := h
 clear h
 by_cases c3 : (l0.length : Int) = (l1.length : Int)
 ·
  rw [if_pos c3] at H
  have c3b0 : ((l0.length : Int) == (l1.length : Int)) = true := beq_iff_eq.mpr c3
  have c3b1 : ((l0.length : Int) != (l1.length : Int)) = false := bne_eq_false_iff_eq.mpr c3
  have c3b2 : (l0.length == l1.length) = true := by first | simpa using c3 | (simp at c3 ⊢; omega)
  clear c3
  have H' := Aside0.mk H
  clear H
  go_enter Tryd.func11, Tryd.ntmps11
  go_wp2
  repeat (go_quiet (fail); try go_wp2)
  go_loopg [5] k (fun kq v5 w' => ∃ (x5_1 : Int), v5 = .int .i64 x5_1 ∧ Aside0 (laws_eqIntS.l0 kq l0 l1 x5_1 = some r) ∧ Aside0 (kq ≤ k) ∧ Drawn0 w w')
  case atStart => exact ⟨(0), (by first | rfl | (simp; done) | (simp [*]; done)), H', ⟨Nat.le_refl _⟩, by repeat (first | exact Drawn0.refl _ | apply Drawn0.step)⟩
  case round =>
   clear H'
   try clear c1
   try clear p2
   try clear c3
   try clear c3b0
   try clear c3b1
   try clear c3b2
   obtain ⟨x5_1, rfl, HA, HK1, ⟨m1, rfl⟩⟩ := hrel
   cases gk with
   | zero => exact absurd HA.out (by simp [laws_eqIntS.l0])
   | succ k1 =>
    have H := HA.out
    clear HA
    simp only [laws_eqIntS.l0] at H
    by_cases c4 : x5_1 < (l0.length : Int)
    ·
     rw [if_pos c4] at H
     have c4b0 : decide (x5_1 < (l0.length : Int)) = true := decide_eq_true c4
     clear c4
     by_cases c5 : 0 ≤ x5_1
     ·
      rw [if_pos c5] at H
      have c5b0 : decide (0 ≤ x5_1) = true := decide_eq_true c5
      clear c5
      by_cases c6 : x5_1 < (l1.length : Int)
      ·
       rw [if_pos c6] at H
       have c6b0 : decide (x5_1 < (l1.length : Int)) = true := decide_eq_true c6
       clear c6
       by_cases c7 : (rd l0 x5_1) = (rd l1 x5_1)
       ·
        rw [if_pos c7] at H
        have c7b0 : ((rd l0 x5_1) == (rd l1 x5_1)) = true := beq_iff_eq.mpr c7
        have c7b1 : ((rd l0 x5_1) != (rd l1 x5_1)) = false := bne_eq_false_iff_eq.mpr c7
        clear c7
        have H' := Aside0.mk H
        clear H
        have p307 : 0 ≤ (x5_1 : Int) := of_decide_eq_true (by first | (with_reducible assumption) | assumption)
        have q307 : x5_1 < (l0.length : Int) := of_decide_eq_true (by first | (with_reducible assumption) | assumption)
        obtain ⟨ad307, e307, hx307_0⟩ := Kd.at_int HR0.out x5_1 p307 q307
        cases e307
        replace p307 := eq_true p307
        replace q307 := eq_true q307
        have p308 : 0 ≤ (x5_1 : Int) := of_decide_eq_true (by first | (with_reducible assumption) | assumption)
        have q308 : x5_1 < (l1.length : Int) := of_decide_eq_true (by first | (with_reducible assumption) | assumption)
        obtain ⟨ad308, e308, hx308_0⟩ := Kd.at_int HR1.out x5_1 p308 q308
        cases e308
        replace p308 := eq_true p308
        replace q308 := eq_true q308
        go_wp2
        repeat (go_quiet (fail); try go_wp2)
        go_roundg k1
        case measure => have := HK1.out; omega
        case rel => exact ⟨(wrap64 (x5_1 + 1)), (by first | rfl | (simp; done) | (simp [*]; done)), H', ⟨by have := HK1.out; omega⟩, by repeat (first | exact Drawn0.refl _ | apply Drawn0.step)⟩
       ·
        rw [if_neg c7] at H
        have c7b0 : ((rd l0 x5_1) == (rd l1 x5_1)) = false := beq_eq_false_iff_ne.mpr c7
        have c7b1 : ((rd l0 x5_1) != (rd l1 x5_1)) = true := bne_iff_ne.mpr c7
        obtain rfl := Option.some.inj H
        have p307 : 0 ≤ (x5_1 : Int) := of_decide_eq_true (by first | (with_reducible assumption) | assumption)
        have q307 : x5_1 < (l0.length : Int) := of_decide_eq_true (by first | (with_reducible assumption) | assumption)
        obtain ⟨ad307, e307, hx307_0⟩ := Kd.at_int HR0.out x5_1 p307 q307
        cases e307
        replace p307 := eq_true p307
        replace q307 := eq_true q307
        have p308 : 0 ≤ (x5_1 : Int) := of_decide_eq_true (by first | (with_reducible assumption) | assumption)
        have q308 : x5_1 < (l1.length : Int) := of_decide_eq_true (by first | (with_reducible assumption) | assumption)
        obtain ⟨ad308, e308, hx308_0⟩ := Kd.at_int HR1.out x5_1 p308 q308
        cases e308
        replace p308 := eq_true p308
        replace q308 := eq_true q308
        go_wp2
        repeat (go_quiet (fail); try go_wp2)
        go_ret
        exact ⟨by first | rfl | (simp; done) | (simp [*]; done), by repeat (first | exact Drawn0.refl _ | apply Drawn0.step)⟩
      ·
       rw [if_neg c6] at H
       exact absurd H (by simp)
     ·
      rw [if_neg c5] at H
      exact absurd H (by simp)
    ·
     rw [if_neg c4] at H
     have c4b0 : decide (x5_1 < (l0.length : Int)) = false := decide_eq_false c4
     clear c4
     obtain rfl := Option.some.inj H
     go_wp2
     repeat (go_quiet (fail); try go_wp2)
     go_ret
     exact ⟨by first | rfl | (simp; done) | (simp [*]; done), by repeat (first | exact Drawn0.refl _ | apply Drawn0.step)⟩
 ·
  rw [if_neg c3] at H
  have c3b0 : ((l0.length : Int) == (l1.length : Int)) = false := beq_eq_false_iff_ne.mpr c3
  have c3b1 : ((l0.length : Int) != (l1.length : Int)) = true := bne_iff_ne.mpr c3
  have c3b2 : (l0.length == l1.length) = false := by first | simpa using c3 | (simp at c3 ⊢; omega)
  obtain rfl := Option.some.inj H
  go_enter Tryd.func11, Tryd.ntmps11
  go_wp2
  repeat (go_quiet (fail); try go_wp2)
  go_ret
  exact ⟨by first | rfl | (simp; done) | (simp [*]; done), by repeat (first | exact Drawn0.refl _ | apply Drawn0.step)⟩
def laws_eqShape.f (k : Nat) (l0_0 : List Int) (l0_1 : List Int) (l1_0 : List Int) (l1_1 : List Int) : Option (Bool) := (laws_eqIntS.f k l0_0 l1_0).bind fun t311 => (if t311 = true then ((laws_eqIntS.f k l0_1 l1_1).bind fun t312 => (if t312 = true then (some true) else (some false))) else (some false))
set_option maxHeartbeats 8000000 in
set_option maxRecDepth 100000 in
theorem laws_eqShape.calls (k : Nat) (A0_0 : Option Addr) (c0_0 : Nat) (l0_0 : List Int) (A0_1 : Option Addr) (c0_1 : Nat) (l0_1 : List Int) (A1_0 : Option Addr) (c1_0 : Nat) (l1_0 : List Int) (A1_1 : Option Addr) (c1_1 : Nat) (l1_1 : List Int) (r : Bool) (w : World) (hr0_0 : Kd.C (Kd.int .i64) w A0_0 l0_0.length l0_0) (hc0_0 : l0_0.length ≤ c0_0) (hr0_1 : Kd.C (Kd.int .i64) w A0_1 l0_1.length l0_1) (hc0_1 : l0_1.length ≤ c0_1) (hr1_0 : Kd.C (Kd.int .i64) w A1_0 l1_0.length l1_0) (hc1_0 : l1_0.length ≤ c1_0) (hr1_1 : Kd.C (Kd.int .i64) w A1_1 l1_1.length l1_1) (hc1_1 : l1_1.length ≤ c1_1) (h : laws_eqShape.f k l0_0 l0_1 l1_0 l1_1 = some r) :
  Calls Tryd.prog 21 #[.agg #[.slice A0_0 l0_0.length c0_0, .slice A0_1 l0_1.length c0_1], .agg #[.slice A1_0 l1_0.length c1_0, .slice A1_1 l1_1.length c1_1]] w fun e w' => e = .returned (.bool r) ∧ Below w.heap.size w w' := by
 have hu38 := Tryd.underlying38
 have HR0_0 := Aside0.mk hr0_0
 have HC0_0 := Aside0.mk hc0_0
 clear hr0_0 hc0_0
 have HR0_1 := Aside0.mk hr0_1
 have HC0_1 := Aside0.mk hc0_1
 clear hr0_1 hc0_1
 have HR1_0 := Aside0.mk hr1_0
 have HC1_0 := Aside0.mk hc1_0
 clear hr1_0 hc1_0
 have HR1_1 := Aside0.mk hr1_1
 have HC1_1 := Aside0.mk hc1_1
 clear hr1_1 hc1_1
 have HB := Aside0.mk (Below.refl w.heap.size w)
 have H : ((laws_eqIntS.f k l0_0 l1_0).bind fun t311 => (if t311 = true then ((laws_eqIntS.f k l0_1 l1_1).bind fun t312 => (if t312 = true then (some true) else (some false))) else (some false))) = some r := h
 clear h
 replace H := Option.bind_eq_some_iff.mp H
 obtain ⟨t311, A30, H⟩ := H
 replace H : (if t311 = true then ((laws_eqIntS.f k l0_1 l1_1).bind fun t312 => (if t312 = true then (some true) else (some false))) else (some false)) = some r := H
 have A3 := Aside0.mk A30
 clear A30
 by_cases c4 : t311 = true
 ·
  subst c4
  have H1 : ((laws_eqIntS.f k l0_1 l1_1).bind fun t312 => (if t312 = true then (some true) else (some false))) = some r := by rw [if_pos rfl] at H; exact H
  clear H
  have H := H1
  clear H1
  replace H := Option.bind_eq_some_iff.mp H
  obtain ⟨t312, A50, H⟩ := H
  replace H : (if t312 = true then (some true) else (some false)) = some r := H
  have A5 := Aside0.mk A50
  clear A50
  by_cases c6 : t312 = true
  ·
   subst c6
   have H1 : (some true) = some r := by rw [if_pos rfl] at H; exact H
   clear H
   have H := H1
   clear H1
   obtain rfl := Option.some.inj H
   go_enter Tryd.func21, Tryd.ntmps21
   go_wp2_with (first | ((with_reducible refine gate_dst (N := 2) rfl ?_); refine box_event ?hg (N := 2) ?hd (cs := #[.slice A0_0 l0_0.length c0_0, .slice A0_1 l0_1.length c0_1]) (t := 38) ?hr ?_; (case hd => rfl); (case hg => rfl); (case hr => first | (go_simp; done) | (go_simp; rfl)); intro gb309 hg w7 hbox hb; have n0_ := Aside0.mk (below_step (by repeat (first | (with_reducible first | exact HB.out | apply below_alloc | apply pw_below_drewN | apply below_drew1) | exact HB.out)) hb); have n1_ := Aside0.mk (hbox); have n2_ := Aside0.mk ((by rw [hg]; exact (below_size (by repeat (first | (with_reducible first | exact HB.out | apply below_alloc | apply pw_below_drewN | apply below_drew1) | exact HB.out))) : w.heap.size ≤ gb309)); have n3_ := Aside0.mk ((by rw [hg]; exact (below_size (by repeat (first | (with_reducible first | exact HB.out | apply below_alloc | apply pw_below_drewN | apply below_drew1) | exact HB.out))) : w.heap.size ≤ gb309)); clear HB; have HB := n0_; have BK309 := n1_; have GW309 := n2_; have GE309 := n3_; clear n0_ n1_ n2_ n3_; clear hb hbox hg) | ((with_reducible refine gate_dst (N := 3) rfl ?_); refine box_event ?hg (N := 3) ?hd (cs := #[.slice A1_0 l1_0.length c1_0, .slice A1_1 l1_1.length c1_1]) (t := 38) ?hr ?_; (case hd => rfl); (case hg => rfl); (case hr => first | (go_simp; done) | (go_simp; rfl)); intro gb310 hg w8 hbox hb; have n0_ := Aside0.mk (blk_below (g := gb309) (o := .cells #[.slice A0_0 l0_0.length c0_0, .slice A0_1 l0_1.length c0_1] 38 (0, 0)) (by (with_reducible repeat (first | refine blk_drewN ?_ _ | refine blk_drew ?_ | refine blk_alloc ?_ _)); exact BK309.out) hb); have n1_ := Aside0.mk (below_step (by repeat (first | (with_reducible first | exact HB.out | apply below_alloc | apply pw_below_drewN | apply below_drew1 | refine below_set ?_ GE309.out) | exact HB.out)) hb); have n2_ := Aside0.mk (hbox); have n3_ := Aside0.mk ((by rw [hg]; exact (below_size (by repeat (first | (with_reducible first | exact HB.out | apply below_alloc | apply pw_below_drewN | apply below_drew1 | refine below_set ?_ GE309.out) | exact HB.out))) : w.heap.size ≤ gb310)); have n4_ := Aside0.mk ((by rw [hg]; exact (below_size (by repeat (first | (with_reducible first | exact HB.out | apply below_alloc | apply pw_below_drewN | apply below_drew1 | refine below_set ?_ GE309.out) | exact HB.out))) : w.heap.size ≤ gb310)); have n5_ := Aside0.mk ((by rw [hg]; exact Nat.ne_of_lt (blk_lt (g := gb309) (o := .cells #[.slice A0_0 l0_0.length c0_0, .slice A0_1 l0_1.length c0_1] 38 (0, 0)) (by (with_reducible repeat (first | refine blk_drewN ?_ _ | refine blk_drew ?_ | refine blk_alloc ?_ _)); exact BK309.out)) : gb309 ≠ gb310)); have n6_ := Aside0.mk ((by rw [hg]; exact Nat.ne_of_gt (blk_lt (g := gb309) (o := .cells #[.slice A0_0 l0_0.length c0_0, .slice A0_1 l0_1.length c0_1] 38 (0, 0)) (by (with_reducible repeat (first | refine blk_drewN ?_ _ | refine blk_drew ?_ | refine blk_alloc ?_ _)); exact BK309.out)) : gb310 ≠ gb309)); clear BK309; clear HB; have BK309 := n0_; have HB := n1_; have BK310 := n2_; have GW310 := n3_; have GE310 := n4_; have NB309_310 := n5_; have NB310_309 := n6_; clear n0_ n1_ n2_ n3_ n4_ n5_ n6_; clear hb hbox hg; have hnb9 := NB309_310.out; have hnc9 := NB310_309.out; have hcz10_0 : w8.cell? ⟨gb309, 0, none⟩ = some (.slice A0_0 l0_0.length c0_0) := (blk_cell BK309.out 0).trans rfl; have hcz10_1 : w8.cell? ⟨gb309, 1, none⟩ = some (.slice A0_1 l0_1.length c0_1) := (blk_cell BK309.out 1).trans rfl; have hfz10_0 := blk_frozen BK309.out 0; have hfz10_1 := blk_frozen BK309.out 1; have hcz11_0 : w8.cell? ⟨gb310, 0, none⟩ = some (.slice A1_0 l1_0.length c1_0) := (blk_cell BK310.out 0).trans rfl; have hcz11_1 : w8.cell? ⟨gb310, 1, none⟩ = some (.slice A1_1 l1_1.length c1_1) := (blk_cell BK310.out 1).trans rfl; have hfz11_0 := blk_frozen BK310.out 0; have hfz11_1 := blk_frozen BK310.out 1) | ((with_reducible refine gate_callee (f := 11) rfl ?_); refine goesL_ (some 9) rfl rfl Tryd.func11 (by kernel_rfl) rfl #[.slice A0_0 l0_0.length c0_0, .slice A1_0 l1_0.length c1_0] rfl (by (try simp only [List.map_toArray, List.map_cons, List.map_nil]); first | done | rfl | (simp only [List.length_drop, List.length_take]; rfl)) ?_; (with_reducible refine (laws_eqIntS.calls k _ _ l0_0 _ _ l1_0 true _ ?side1 ?side2 ?side3 ?side4 A3.out).mono ?_); (case side1 => repeat (first | exact (Kd.C_below HR0_0.out HB.out) | (with_reducible refine Kd.C_alloc ?_ _) | (with_reducible refine Kd.C_drewN ?_ _) | (with_reducible refine Kd.C_drew ?_))); (case side2 => exact HC0_0.out); (case side3 => repeat (first | exact (Kd.C_below HR1_0.out HB.out) | (with_reducible refine Kd.C_alloc ?_ _) | (with_reducible refine Kd.C_drewN ?_ _) | (with_reducible refine Kd.C_drew ?_))); (case side4 => exact HC1_0.out); rintro e w' ⟨rfl, ⟨nd, rfl⟩⟩; refine ⟨_, rfl, ?_⟩) | ((with_reducible refine gate_callee (f := 11) rfl ?_); refine goesL_ (some 15) rfl rfl Tryd.func11 (by kernel_rfl) rfl #[.slice A0_1 l0_1.length c0_1, .slice A1_1 l1_1.length c1_1] rfl (by (try simp only [List.map_toArray, List.map_cons, List.map_nil]); first | done | rfl | (simp only [List.length_drop, List.length_take]; rfl)) ?_; (with_reducible refine (laws_eqIntS.calls k _ _ l0_1 _ _ l1_1 true _ ?side1 ?side2 ?side3 ?side4 A5.out).mono ?_); (case side1 => repeat (first | exact (Kd.C_below HR0_1.out (by repeat (first | (with_reducible first | exact HB.out | apply below_alloc | apply pw_below_drewN | apply below_drew1 | refine below_set ?_ GE309.out | refine below_set ?_ GE310.out) | exact HB.out))) | (with_reducible refine Kd.C_alloc ?_ _) | (with_reducible refine Kd.C_drewN ?_ _) | (with_reducible refine Kd.C_drew ?_))); (case side2 => exact HC0_1.out); (case side3 => repeat (first | exact (Kd.C_below HR1_1.out (by repeat (first | (with_reducible first | exact HB.out | apply below_alloc | apply pw_below_drewN | apply below_drew1 | refine below_set ?_ GE309.out | refine below_set ?_ GE310.out) | exact HB.out))) | (with_reducible refine Kd.C_alloc ?_ _) | (with_reducible refine Kd.C_drewN ?_ _) | (with_reducible refine Kd.C_drew ?_))); (case side4 => exact HC1_1.out); rintro e w' ⟨rfl, ⟨nd, rfl⟩⟩; refine ⟨_, rfl, ?_⟩))
   go_ret
   exact ⟨by first | rfl | (simp [errW_none, errW_some] <;> rfl) | (simp [*, errW_none, errW_some] <;> rfl), by repeat (first | (with_reducible first | exact HB.out | apply below_alloc | apply pw_below_drewN | apply below_drew1 | refine below_set ?_ GE309.out | refine below_set ?_ GE310.out) | exact HB.out)⟩
  ·
   replace c6 := Bool.eq_false_iff.mpr c6
   subst c6
   have H1 : (some false) = some r := by rw [if_neg (show ¬ (false = true) by decide)] at H; exact H
   clear H
   have H := H1
   clear H1
   obtain rfl := Option.some.inj H
   go_enter Tryd.func21, Tryd.ntmps21
   go_wp2_with (first | ((with_reducible refine gate_dst (N := 2) rfl ?_); refine box_event ?hg (N := 2) ?hd (cs := #[.slice A0_0 l0_0.length c0_0, .slice A0_1 l0_1.length c0_1]) (t := 38) ?hr ?_; (case hd => rfl); (case hg => rfl); (case hr => first | (go_simp; done) | (go_simp; rfl)); intro gb309 hg w12 hbox hb; have n0_ := Aside0.mk (below_step (by repeat (first | (with_reducible first | exact HB.out | apply below_alloc | apply pw_below_drewN | apply below_drew1) | exact HB.out)) hb); have n1_ := Aside0.mk (hbox); have n2_ := Aside0.mk ((by rw [hg]; exact (below_size (by repeat (first | (with_reducible first | exact HB.out | apply below_alloc | apply pw_below_drewN | apply below_drew1) | exact HB.out))) : w.heap.size ≤ gb309)); have n3_ := Aside0.mk ((by rw [hg]; exact (below_size (by repeat (first | (with_reducible first | exact HB.out | apply below_alloc | apply pw_below_drewN | apply below_drew1) | exact HB.out))) : w.heap.size ≤ gb309)); clear HB; have HB := n0_; have BK309 := n1_; have GW309 := n2_; have GE309 := n3_; clear n0_ n1_ n2_ n3_; clear hb hbox hg) | ((with_reducible refine gate_dst (N := 3) rfl ?_); refine box_event ?hg (N := 3) ?hd (cs := #[.slice A1_0 l1_0.length c1_0, .slice A1_1 l1_1.length c1_1]) (t := 38) ?hr ?_; (case hd => rfl); (case hg => rfl); (case hr => first | (go_simp; done) | (go_simp; rfl)); intro gb310 hg w13 hbox hb; have n0_ := Aside0.mk (blk_below (g := gb309) (o := .cells #[.slice A0_0 l0_0.length c0_0, .slice A0_1 l0_1.length c0_1] 38 (0, 0)) (by (with_reducible repeat (first | refine blk_drewN ?_ _ | refine blk_drew ?_ | refine blk_alloc ?_ _)); exact BK309.out) hb); have n1_ := Aside0.mk (below_step (by repeat (first | (with_reducible first | exact HB.out | apply below_alloc | apply pw_below_drewN | apply below_drew1 | refine below_set ?_ GE309.out) | exact HB.out)) hb); have n2_ := Aside0.mk (hbox); have n3_ := Aside0.mk ((by rw [hg]; exact (below_size (by repeat (first | (with_reducible first | exact HB.out | apply below_alloc | apply pw_below_drewN | apply below_drew1 | refine below_set ?_ GE309.out) | exact HB.out))) : w.heap.size ≤ gb310)); have n4_ := Aside0.mk ((by rw [hg]; exact (below_size (by repeat (first | (with_reducible first | exact HB.out | apply below_alloc | apply pw_below_drewN | apply below_drew1 | refine below_set ?_ GE309.out) | exact HB.out))) : w.heap.size ≤ gb310)); have n5_ := Aside0.mk ((by rw [hg]; exact Nat.ne_of_lt (blk_lt (g := gb309) (o := .cells #[.slice A0_0 l0_0.length c0_0, .slice A0_1 l0_1.length c0_1] 38 (0, 0)) (by (with_reducible repeat (first | refine blk_drewN ?_ _ | refine blk_drew ?_ | refine blk_alloc ?_ _)); exact BK309.out)) : gb309 ≠ gb310)); have n6_ := Aside0.mk ((by rw [hg]; exact Nat.ne_of_gt (blk_lt (g := gb309) (o := .cells #[.slice A0_0 l0_0.length c0_0, .slice A0_1 l0_1.length c0_1] 38 (0, 0)) (by (with_reducible repeat (first | refine blk_drewN ?_ _ | refine blk_drew ?_ | refine blk_alloc ?_ _)); exact BK309.out)) : gb310 ≠ gb309)); clear BK309; clear HB; have BK309 := n0_; have HB := n1_; have BK310 := n2_; have GW310 := n3_; have GE310 := n4_; have NB309_310 := n5_; have NB310_309 := n6_; clear n0_ n1_ n2_ n3_ n4_ n5_ n6_; clear hb hbox hg; have hnb14 := NB309_310.out; have hnc14 := NB310_309.out; have hcz15_0 : w13.cell? ⟨gb309, 0, none⟩ = some (.slice A0_0 l0_0.length c0_0) := (blk_cell BK309.out 0).trans rfl; have hcz15_1 : w13.cell? ⟨gb309, 1, none⟩ = some (.slice A0_1 l0_1.length c0_1) := (blk_cell BK309.out 1).trans rfl; have hfz15_0 := blk_frozen BK309.out 0; have hfz15_1 := blk_frozen BK309.out 1; have hcz16_0 : w13.cell? ⟨gb310, 0, none⟩ = some (.slice A1_0 l1_0.length c1_0) := (blk_cell BK310.out 0).trans rfl; have hcz16_1 : w13.cell? ⟨gb310, 1, none⟩ = some (.slice A1_1 l1_1.length c1_1) := (blk_cell BK310.out 1).trans rfl; have hfz16_0 := blk_frozen BK310.out 0; have hfz16_1 := blk_frozen BK310.out 1) | ((with_reducible refine gate_callee (f := 11) rfl ?_); refine goesL_ (some 9) rfl rfl Tryd.func11 (by kernel_rfl) rfl #[.slice A0_0 l0_0.length c0_0, .slice A1_0 l1_0.length c1_0] rfl (by (try simp only [List.map_toArray, List.map_cons, List.map_nil]); first | done | rfl | (simp only [List.length_drop, List.length_take]; rfl)) ?_; (with_reducible refine (laws_eqIntS.calls k _ _ l0_0 _ _ l1_0 true _ ?side1 ?side2 ?side3 ?side4 A3.out).mono ?_); (case side1 => repeat (first | exact (Kd.C_below HR0_0.out HB.out) | (with_reducible refine Kd.C_alloc ?_ _) | (with_reducible refine Kd.C_drewN ?_ _) | (with_reducible refine Kd.C_drew ?_))); (case side2 => exact HC0_0.out); (case side3 => repeat (first | exact (Kd.C_below HR1_0.out HB.out) | (with_reducible refine Kd.C_alloc ?_ _) | (with_reducible refine Kd.C_drewN ?_ _) | (with_reducible refine Kd.C_drew ?_))); (case side4 => exact HC1_0.out); rintro e w' ⟨rfl, ⟨nd, rfl⟩⟩; refine ⟨_, rfl, ?_⟩) | ((with_reducible refine gate_callee (f := 11) rfl ?_); refine goesL_ (some 15) rfl rfl Tryd.func11 (by kernel_rfl) rfl #[.slice A0_1 l0_1.length c0_1, .slice A1_1 l1_1.length c1_1] rfl (by (try simp only [List.map_toArray, List.map_cons, List.map_nil]); first | done | rfl | (simp only [List.length_drop, List.length_take]; rfl)) ?_; (with_reducible refine (laws_eqIntS.calls k _ _ l0_1 _ _ l1_1 false _ ?side1 ?side2 ?side3 ?side4 A5.out).mono ?_); (case side1 => repeat (first | exact (Kd.C_below HR0_1.out (by repeat (first | (with_reducible first | exact HB.out | apply below_alloc | apply pw_below_drewN | apply below_drew1 | refine below_set ?_ GE309.out | refine below_set ?_ GE310.out) | exact HB.out))) | (with_reducible refine Kd.C_alloc ?_ _) | (with_reducible refine Kd.C_drewN ?_ _) | (with_reducible refine Kd.C_drew ?_))); (case side2 => exact HC0_1.out); (case side3 => repeat (first | exact (Kd.C_below HR1_1.out (by repeat (first | (with_reducible first | exact HB.out | apply below_alloc | apply pw_below_drewN | apply below_drew1 | refine below_set ?_ GE309.out | refine below_set ?_ GE310.out) | exact HB.out))) | (with_reducible refine Kd.C_alloc ?_ _) | (with_reducible refine Kd.C_drewN ?_ _) | (with_reducible refine Kd.C_drew ?_))); (case side4 => exact HC1_1.out); rintro e w' ⟨rfl, ⟨nd, rfl⟩⟩; refine ⟨_, rfl, ?_⟩))
   go_ret
   exact ⟨by first | rfl | (simp [errW_none, errW_some] <;> rfl) | (simp [*, errW_none, errW_some] <;> rfl), by repeat (first | (with_reducible first | exact HB.out | apply below_alloc | apply pw_below_drewN | apply below_drew1 | refine below_set ?_ GE309.out | refine below_set ?_ GE310.out) | exact HB.out)⟩
 ·
  replace c4 := Bool.eq_false_iff.mpr c4
  subst c4
  have H1 : (some false) = some r := by rw [if_neg (show ¬ (false = true) by decide)] at H; exact H
  clear H
  have H := H1
  clear H1
  obtain rfl := Option.some.inj H
  go_enter Tryd.func21, Tryd.ntmps21
  go_wp2_with (first | ((with_reducible refine gate_dst (N := 2) rfl ?_); refine box_event ?hg (N := 2) ?hd (cs := #[.slice A0_0 l0_0.length c0_0, .slice A0_1 l0_1.length c0_1]) (t := 38) ?hr ?_; (case hd => rfl); (case hg => rfl); (case hr => first | (go_simp; done) | (go_simp; rfl)); intro gb309 hg w17 hbox hb; have n0_ := Aside0.mk (below_step (by repeat (first | (with_reducible first | exact HB.out | apply below_alloc | apply pw_below_drewN | apply below_drew1) | exact HB.out)) hb); have n1_ := Aside0.mk (hbox); have n2_ := Aside0.mk ((by rw [hg]; exact (below_size (by repeat (first | (with_reducible first | exact HB.out | apply below_alloc | apply pw_below_drewN | apply below_drew1) | exact HB.out))) : w.heap.size ≤ gb309)); have n3_ := Aside0.mk ((by rw [hg]; exact (below_size (by repeat (first | (with_reducible first | exact HB.out | apply below_alloc | apply pw_below_drewN | apply below_drew1) | exact HB.out))) : w.heap.size ≤ gb309)); clear HB; have HB := n0_; have BK309 := n1_; have GW309 := n2_; have GE309 := n3_; clear n0_ n1_ n2_ n3_; clear hb hbox hg) | ((with_reducible refine gate_dst (N := 3) rfl ?_); refine box_event ?hg (N := 3) ?hd (cs := #[.slice A1_0 l1_0.length c1_0, .slice A1_1 l1_1.length c1_1]) (t := 38) ?hr ?_; (case hd => rfl); (case hg => rfl); (case hr => first | (go_simp; done) | (go_simp; rfl)); intro gb310 hg w18 hbox hb; have n0_ := Aside0.mk (blk_below (g := gb309) (o := .cells #[.slice A0_0 l0_0.length c0_0, .slice A0_1 l0_1.length c0_1] 38 (0, 0)) (by (with_reducible repeat (first | refine blk_drewN ?_ _ | refine blk_drew ?_ | refine blk_alloc ?_ _)); exact BK309.out) hb); have n1_ := Aside0.mk (below_step (by repeat (first | (with_reducible first | exact HB.out | apply below_alloc | apply pw_below_drewN | apply below_drew1 | refine below_set ?_ GE309.out) | exact HB.out)) hb); have n2_ := Aside0.mk (hbox); have n3_ := Aside0.mk ((by rw [hg]; exact (below_size (by repeat (first | (with_reducible first | exact HB.out | apply below_alloc | apply pw_below_drewN | apply below_drew1 | refine below_set ?_ GE309.out) | exact HB.out))) : w.heap.size ≤ gb310)); have n4_ := Aside0.mk ((by rw [hg]; exact (below_size (by repeat (first | (with_reducible first | exact HB.out | apply below_alloc | apply pw_below_drewN | apply below_drew1 | refine below_set ?_ GE309.out) | exact HB.out))) : w.heap.size ≤ gb310)); have n5_ := Aside0.mk ((by rw [hg]; exact Nat.ne_of_lt (blk_lt (g := gb309) (o := .cells #[.slice A0_0 l0_0.length c0_0, .slice A0_1 l0_1.length c0_1] 38 (0, 0)) (by (with_reducible repeat (first | refine blk_drewN ?_ _ | refine blk_drew ?_ | refine blk_alloc ?_ _)); exact BK309.out)) : gb309 ≠ gb310)); have n6_ := Aside0.mk ((by rw [hg]; exact Nat.ne_of_gt (blk_lt (g := gb309) (o := .cells #[.slice A0_0 l0_0.length c0_0, .slice A0_1 l0_1.length c0_1] 38 (0, 0)) (by (with_reducible repeat (first | refine blk_drewN ?_ _ | refine blk_drew ?_ | refine blk_alloc ?_ _)); exact BK309.out)) : gb310 ≠ gb309)); clear BK309; clear HB; have BK309 := n0_; have HB := n1_; have BK310 := n2_; have GW310 := n3_; have GE310 := n4_; have NB309_310 := n5_; have NB310_309 := n6_; clear n0_ n1_ n2_ n3_ n4_ n5_ n6_; clear hb hbox hg; have hnb19 := NB309_310.out; have hnc19 := NB310_309.out; have hcz20_0 : w18.cell? ⟨gb309, 0, none⟩ = some (.slice A0_0 l0_0.length c0_0) := (blk_cell BK309.out 0).trans rfl; have hcz20_1 : w18.cell? ⟨gb309, 1, none⟩ = some (.slice A0_1 l0_1.length c0_1) := (blk_cell BK309.out 1).trans rfl; have hfz20_0 := blk_frozen BK309.out 0; have hfz20_1 := blk_frozen BK309.out 1; have hcz21_0 : w18.cell? ⟨gb310, 0, none⟩ = some (.slice A1_0 l1_0.length c1_0) := (blk_cell BK310.out 0).trans rfl; have hcz21_1 : w18.cell? ⟨gb310, 1, none⟩ = some (.slice A1_1 l1_1.length c1_1) := (blk_cell BK310.out 1).trans rfl; have hfz21_0 := blk_frozen BK310.out 0; have hfz21_1 := blk_frozen BK310.out 1) | ((with_reducible refine gate_callee (f := 11) rfl ?_); refine goesL_ (some 9) rfl rfl Tryd.func11 (by kernel_rfl) rfl #[.slice A0_0 l0_0.length c0_0, .slice A1_0 l1_0.length c1_0] rfl (by (try simp only [List.map_toArray, List.map_cons, List.map_nil]); first | done | rfl | (simp only [List.length_drop, List.length_take]; rfl)) ?_; (with_reducible refine (laws_eqIntS.calls k _ _ l0_0 _ _ l1_0 false _ ?side1 ?side2 ?side3 ?side4 A3.out).mono ?_); (case side1 => repeat (first | exact (Kd.C_below HR0_0.out HB.out) | (with_reducible refine Kd.C_alloc ?_ _) | (with_reducible refine Kd.C_drewN ?_ _) | (with_reducible refine Kd.C_drew ?_))); (case side2 => exact HC0_0.out); (case side3 => repeat (first | exact (Kd.C_below HR1_0.out HB.out) | (with_reducible refine Kd.C_alloc ?_ _) | (with_reducible refine Kd.C_drewN ?_ _) | (with_reducible refine Kd.C_drew ?_))); (case side4 => exact HC1_0.out); rintro e w' ⟨rfl, ⟨nd, rfl⟩⟩; refine ⟨_, rfl, ?_⟩))
  go_ret
  exact ⟨by first | rfl | (simp [errW_none, errW_some] <;> rfl) | (simp [*, errW_none, errW_some] <;> rfl), by repeat (first | (with_reducible first | exact HB.out | apply below_alloc | apply pw_below_drewN | apply below_drew1 | refine below_set ?_ GE309.out | refine below_set ?_ GE310.out) | exact HB.out)⟩
def spec_l7Weight.l0 : Nat → List Int → Int → Option (Bool)
  | 0, _, _ => none
  | k + 1, x0, x3 => if x3 < (x0.length : Int) then (if 0 ≤ x3 then ((spec_l1In.f (rd x0 x3) 0 9).bind fun t338 => (if t338 = true then (spec_l7Weight.l0 k x0 (wrap64 (x3 + 1))) else (some false))) else (none)) else (some (decide ((x0.length : Int) ≤ 9)))
def spec_l7Weight.f (k : Nat) (l0 : List Int) : Option (Bool) := spec_l7Weight.l0 k l0 0
set_option maxHeartbeats 8000000 in
set_option maxRecDepth 100000 in
theorem spec_l7Weight.calls (k : Nat) (A0 : Option Addr) (c0 : Nat) (l0 : List Int) (r : Bool) (w : World) (hr0 : Kd.C (Kd.int .i64) w A0 l0.length l0) (hc0 : l0.length ≤ c0) (h : spec_l7Weight.f k l0 = some r) :
  Calls Tryd.prog 65 #[.slice A0 l0.length c0] w fun e w' => e = .returned (.bool r) ∧ Drawn0 w w' := by
 have HR0 := Aside0.mk hr0
 have HC0 := Aside0.mk hc0
 clear hr0 hc0
 have H : (spec_l7Weight.l0 k l0 0) = some r := h
 clear h
 have H' := Aside0.mk H
 clear H
 go_enter Tryd.func65, Tryd.ntmps65
 go_wp2
 go_loopg [3] k (fun kq v3 w' => ∃ (x3_1 : Int), v3 = .int .i64 x3_1 ∧ Aside0 (spec_l7Weight.l0 kq l0 x3_1 = some r) ∧ Aside0 (kq ≤ k) ∧ Drawn0 w w')
 case atStart => exact ⟨(0), (by first | rfl | (simp; done) | (simp [*]; done)), H', ⟨Nat.le_refl _⟩, by repeat (first | exact Drawn0.refl _ | apply Drawn0.step)⟩
 case round =>
  clear H'
  obtain ⟨x3_1, rfl, HA, HK1, ⟨m1, rfl⟩⟩ := hrel
  cases gk with
  | zero => exact absurd HA.out (by simp [spec_l7Weight.l0])
  | succ k1 =>
   have H := HA.out
   clear HA
   simp only [spec_l7Weight.l0] at H
   by_cases c2 : x3_1 < (l0.length : Int)
   ·
    rw [if_pos c2] at H
    have c2b0 : decide (x3_1 < (l0.length : Int)) = true := decide_eq_true c2
    clear c2
    by_cases c3 : 0 ≤ x3_1
    ·
     rw [if_pos c3] at H
     have c3b0 : decide (0 ≤ x3_1) = true := decide_eq_true c3
     clear c3
     replace H := Option.bind_eq_some_iff.mp H
     obtain ⟨t338, A40, H⟩ := H
     replace H : (if t338 = true then (spec_l7Weight.l0 k1 l0 (wrap64 (x3_1 + 1))) else (some false)) = some r := H
     have A4 := Aside0.mk A40
     clear A40
     by_cases c5 : t338 = true
     ·
      subst c5
      have H1 : (spec_l7Weight.l0 k1 l0 (wrap64 (x3_1 + 1))) = some r := by rw [if_pos rfl] at H; exact H
      clear H
      have H := H1
      clear H1
      have H' := Aside0.mk H
      clear H
      have p337 : 0 ≤ (x3_1 : Int) := of_decide_eq_true (by first | (with_reducible assumption) | assumption)
      have q337 : x3_1 < (l0.length : Int) := of_decide_eq_true (by first | (with_reducible assumption) | assumption)
      obtain ⟨ad337, e337, hx337_0⟩ := Kd.at_int HR0.out x3_1 p337 q337
      cases e337
      replace p337 := eq_true p337
      replace q337 := eq_true q337
      go_wp2_with (first | ((with_reducible refine gate_callee (f := 68) rfl ?_); refine goesL_ (some 14) rfl rfl Tryd.func68 (by kernel_rfl) rfl #[.int .i64 (rd l0 x3_1), .int .i64 0, .int .i64 9] rfl (by (try simp only [List.map_toArray, List.map_cons, List.map_nil]); first | done | rfl | (simp only [List.length_drop, List.length_take]; rfl)) ?_; (with_reducible refine (spec_l1In.calls (rd l0 x3_1) 0 9 true _ A4.out).mono ?_); rintro e w' ⟨rfl, ⟨nd, rfl⟩⟩; refine ⟨_, rfl, ?_⟩))
      go_roundg k1
      case measure => have := HK1.out; omega
      case rel => exact ⟨(wrap64 (x3_1 + 1)), (by first | rfl | (simp; done) | (simp [*]; done)), H', ⟨by have := HK1.out; omega⟩, by repeat (first | exact Drawn0.refl _ | apply Drawn0.step)⟩
     ·
      replace c5 := Bool.eq_false_iff.mpr c5
      subst c5
      have H1 : (some false) = some r := by rw [if_neg (show ¬ (false = true) by decide)] at H; exact H
      clear H
      have H := H1
      clear H1
      obtain rfl := Option.some.inj H
      have p337 : 0 ≤ (x3_1 : Int) := of_decide_eq_true (by first | (with_reducible assumption) | assumption)
      have q337 : x3_1 < (l0.length : Int) := of_decide_eq_true (by first | (with_reducible assumption) | assumption)
      obtain ⟨ad337, e337, hx337_0⟩ := Kd.at_int HR0.out x3_1 p337 q337
      cases e337
      replace p337 := eq_true p337
      replace q337 := eq_true q337
      go_wp2_with (first | ((with_reducible refine gate_callee (f := 68) rfl ?_); refine goesL_ (some 14) rfl rfl Tryd.func68 (by kernel_rfl) rfl #[.int .i64 (rd l0 x3_1), .int .i64 0, .int .i64 9] rfl (by (try simp only [List.map_toArray, List.map_cons, List.map_nil]); first | done | rfl | (simp only [List.length_drop, List.length_take]; rfl)) ?_; (with_reducible refine (spec_l1In.calls (rd l0 x3_1) 0 9 false _ A4.out).mono ?_); rintro e w' ⟨rfl, ⟨nd, rfl⟩⟩; refine ⟨_, rfl, ?_⟩))
      go_ret
      exact ⟨by first | rfl | (simp; done) | (simp [*]; done), by repeat (first | exact Drawn0.refl _ | apply Drawn0.step)⟩
    ·
     rw [if_neg c3] at H
     exact absurd H (by simp)
   ·
    rw [if_neg c2] at H
    have c2b0 : decide (x3_1 < (l0.length : Int)) = false := decide_eq_false c2
    clear c2
    obtain rfl := Option.some.inj H
    go_wp2
    go_ret
    exact ⟨by first | rfl | (simp; done) | (simp [*]; done), by repeat (first | exact Drawn0.refl _ | apply Drawn0.step)⟩
def spec_l1Bit.f (a0 : Bool) : Option (Int) := if a0 = true then (some 1) else (some 0)
set_option maxHeartbeats 8000000 in
set_option maxRecDepth 100000 in
theorem spec_l1Bit.calls (a0 : Bool) (r : Int) (w : World) (h : spec_l1Bit.f a0 = some r) :
    Calls Tryd.prog 27 #[.bool a0] w fun e w' => e = .returned (.int .i64 r) ∧ Drawn0 w w' := by
  have H : (if a0 = true then (some 1) else (some 0)) = some r := h
  clear h
  by_cases c2 : a0 = true
  · subst c2
    have H1 : (some 1) = some r := by rw [if_pos rfl] at H; exact H
    clear H
    have H := H1
    clear H1
    obtain rfl := Option.some.inj H
    go_enter Tryd.func27, Tryd.ntmps27
    go_wp2
    go_ret
    exact ⟨by first | rfl | (simp; done) | (simp [*]; done), by repeat (first | exact Drawn0.refl _ | apply Drawn0.step)⟩
  · replace c2 := Bool.eq_false_iff.mpr c2
    subst c2
    have H1 : (some 0) = some r := by rw [if_neg (show ¬ (false = true) by decide)] at H; exact H
    clear H
    have H := H1
    clear H1
    obtain rfl := Option.some.inj H
    go_enter Tryd.func27, Tryd.ntmps27
    go_wp2
    go_ret
    exact ⟨by first | rfl | (simp; done) | (simp [*]; done), by repeat (first | exact Drawn0.refl _ | apply Drawn0.step)⟩
def spec_l2At.f (l0 : List Int) (a1 : Int) : Option (Int) := if a1 < 0 then (some 0) else (if a1 ≥ (l0.length : Int) then (some 0) else (if 0 ≤ a1 then (if a1 < (l0.length : Int) then (some (rd l0 a1)) else (none)) else (none)))
set_option maxHeartbeats 8000000 in
set_option maxRecDepth 100000 in
theorem spec_l2At.calls (A0 : Option Addr) (c0 : Nat) (l0 : List Int) (a1 : Int) (r : Int) (w : World) (hr0 : Kd.C (Kd.int .i64) w A0 l0.length l0) (hc0 : l0.length ≤ c0) (h : spec_l2At.f l0 a1 = some r) :
    Calls Tryd.prog 81 #[.slice A0 l0.length c0, .int .i64 a1] w fun e w' => e = .returned (.int .i64 r) ∧ Drawn0 w w' := by
  have HR0 := Aside0.mk hr0
  have HC0 := Aside0.mk hc0
  clear hr0 hc0
  have H : (if a1 < 0 then (some 0) else (if a1 ≥ (l0.length : Int) then (some 0) else (if 0 ≤ a1 then (if a1 < (l0.length : Int) then (some (rd l0 a1)) else (none)) else (none)))) = some r := h
  clear h
  by_cases c3 : a1 < 0
  · rw [if_pos c3] at H
    have c3b0 : decide (a1 < 0) = true := decide_eq_true c3
    clear c3
    obtain rfl := Option.some.inj H
    go_enter Tryd.func81, Tryd.ntmps81
    go_wp2
    go_ret
    exact ⟨by first | rfl | (simp; done) | (simp [*]; done), by repeat (first | exact Drawn0.refl _ | apply Drawn0.step)⟩
  · rw [if_neg c3] at H
    have c3b0 : decide (a1 < 0) = false := decide_eq_false c3
    clear c3
    by_cases c4 : a1 ≥ (l0.length : Int)
    · rw [if_pos c4] at H
      have c4b0 : decide ((l0.length : Int) ≤ a1) = true := decide_eq_true c4
      clear c4
      obtain rfl := Option.some.inj H
      go_enter Tryd.func81, Tryd.ntmps81
      go_wp2
      go_ret
      exact ⟨by first | rfl | (simp; done) | (simp [*]; done), by repeat (first | exact Drawn0.refl _ | apply Drawn0.step)⟩
    · rw [if_neg c4] at H
      have c4b0 : decide ((l0.length : Int) ≤ a1) = false := decide_eq_false c4
      clear c4
      by_cases c5 : 0 ≤ a1
      · rw [if_pos c5] at H
        have c5b0 : decide (0 ≤ a1) = true := decide_eq_true c5
        clear c5
        by_cases c6 : a1 < (l0.length : Int)
        · rw [if_pos c6] at H
          have c6b0 : decide (a1 < (l0.length : Int)) = true := decide_eq_true c6
          clear c6
          obtain rfl := Option.some.inj H
          have p339 : 0 ≤ (a1 : Int) := of_decide_eq_true (by first | (with_reducible assumption) | assumption)
          have q339 : a1 < (l0.length : Int) := of_decide_eq_true (by first | (with_reducible assumption) | assumption)
          obtain ⟨ad339, e339, hx339_0⟩ := Kd.at_int HR0.out a1 p339 q339
          cases e339
          replace p339 := eq_true p339
          replace q339 := eq_true q339
          go_enter Tryd.func81, Tryd.ntmps81
          go_wp2
          go_ret
          exact ⟨by first | rfl | (simp; done) | (simp [*]; done), by repeat (first | exact Drawn0.refl _ | apply Drawn0.step)⟩
        · rw [if_neg c6] at H
          exact absurd H (by simp)
      · rw [if_neg c5] at H
        exact absurd H (by simp)
def spec_l1Min.f (a0 : Int) (a1 : Int) : Option (Int) := if a0 < a1 then (some a0) else (some a1)
set_option maxHeartbeats 8000000 in
set_option maxRecDepth 100000 in
theorem spec_l1Min.calls (a0 : Int) (a1 : Int) (r : Int) (w : World) (h : spec_l1Min.f a0 a1 = some r) :
    Calls Tryd.prog 143 #[.int .i64 a0, .int .i64 a1] w fun e w' => e = .returned (.int .i64 r) ∧ Drawn0 w w' := by
  have H : (if a0 < a1 then (some a0) else (some a1)) = some r := h
  clear h
  by_cases c3 : a0 < a1
  · rw [if_pos c3] at H
    have c3b0 : decide (a0 < a1) = true := decide_eq_true c3
    clear c3
    obtain rfl := Option.some.inj H
    go_enter Tryd.func143, Tryd.ntmps143
    go_wp2
    go_ret
    exact ⟨by first | rfl | (simp; done) | (simp [*]; done), by repeat (first | exact Drawn0.refl _ | apply Drawn0.step)⟩
  · rw [if_neg c3] at H
    have c3b0 : decide (a0 < a1) = false := decide_eq_false c3
    clear c3
    obtain rfl := Option.some.inj H
    go_enter Tryd.func143, Tryd.ntmps143
    go_wp2
    go_ret
    exact ⟨by first | rfl | (simp; done) | (simp [*]; done), by repeat (first | exact Drawn0.refl _ | apply Drawn0.step)⟩
mutual
def spec_l7Strips.j0 : Nat → List Int → List Int → Int → Int → List (List Int) → Int → Option ((List (List Int)))
  | 0, _, _, _, _, _, _ => none
  | k + 1, x0, x1, x2, x3, x9, x10 => (spec_l2At.f x0 x3).bind fun t352 => (spec_l7Strips.l0 k x0 x1 x2 x3 x9 x10 t352)
def spec_l7Strips.l0 : Nat → List Int → List Int → Int → Int → List (List Int) → Int → Int → Option ((List (List Int)))
  | 0, _, _, _, _, _, _, _ => none
  | k + 1, x0, x1, x2, x3, x9, x10, x11 => if x11 ≤ x10 then ((spec_l2At.f x0 x3).bind fun t353 => (spec_l7Strips.j2 k x0 x1 x2 x3 x9 x10 x11 (decide ((wrap64 (x11 - t353)) ≤ x2)))) else (spec_l7Strips.j2 k x0 x1 x2 x3 x9 x10 x11 false)
def spec_l7Strips.j2 : Nat → List Int → List Int → Int → Int → List (List Int) → Int → Int → Bool → Option ((List (List Int)))
  | 0, _, _, _, _, _, _, _, _ => none
  | k + 1, x0, x1, x2, x3, x9, x10, x11, x52 => if x52 = true then ((spec_l2At.f x0 x3).bind fun t354 => ((spec_l7Strips.f k x0 x1 (wrap64 ((wrap64 (x2 - x11)) + t354)) (wrap64 (x3 + 1))).bind fun t355 => (spec_l7Strips.l1 k x0 x1 x2 x3 x9 x10 x11 t355 0))) else (some x9)
def spec_l7Strips.l1 : Nat → List Int → List Int → Int → Int → List (List Int) → Int → Int → List (List Int) → Int → Option ((List (List Int)))
  | 0, _, _, _, _, _, _, _, _, _ => none
  | k + 1, x0, x1, x2, x3, x9, x10, x11, x12, x13 => if x13 < (x12.length : Int) then ((some (([x11] : List Int) : List Int)).bind fun y358 => (if 0 ≤ x13 then (if y358.length + (rd_L3 x12 x13).length < 17592186044416 then (if x9.length < 5864062014805 then (spec_l7Strips.l1 k x0 x1 x2 x3 (x9 ++ [(y358 ++ (rd_L3 x12 x13))]) x10 x11 x12 (wrap64 (x13 + 1))) else (none)) else (none)) else (none))) else (spec_l7Strips.l0 k x0 x1 x2 x3 x9 x10 (wrap64 (x11 + 1)))
def spec_l7Strips.f : Nat → List Int → List Int → Int → Int → Option ((List (List Int)))
  | 0, _, _, _, _ => none
  | k + 1, l0, l1, a2, a3 => (some (([] : List (List Int)) : List (List Int))).bind fun y340 => (if a3 = (l1.length : Int) then (if a2 = 0 then (if y340.length < 5864062014805 then (some (y340 ++ [(([] : List Int))])) else (none)) else (some y340)) else (if 0 ≤ a3 then (if a3 < (l1.length : Int) then (if a3 > 0 then ((spec_l2At.f l0 (wrap64 (a3 - 1))).bind fun t350 => ((spec_l1Min.f (rd l1 a3) t350).bind fun t351 => (spec_l7Strips.j0 k l0 l1 a2 a3 y340 t351))) else (spec_l7Strips.j0 k l0 l1 a2 a3 y340 (rd l1 a3))) else (none)) else (none)))
end
set_option maxHeartbeats 8000000 in
set_option maxRecDepth 100000 in
theorem spec_l7Strips.calls (k : Nat) : ∀ (A0 : Option Addr) (c0 : Nat) (l0 : List Int) (A1 : Option Addr) (c1 : Nat) (l1 : List Int) (a2 : Int) (a3 : Int) (r : List (List Int)) (w : World) (hr0 : Kd.C (Kd.int .i64) w A0 l0.length l0) (hc0 : l0.length ≤ c0) (hr1 : Kd.C (Kd.int .i64) w A1 l1.length l1) (hc1 : l1.length ≤ c1) (h : spec_l7Strips.f k l0 l1 a2 a3 = some r),
  Calls Tryd.prog 102 #[.slice A0 l0.length c0, .slice A1 l1.length c1, .int .i64 a2, .int .i64 a3] w fun e w' => ∃ v0_ : Value, e = .returned (v0_) ∧ Kd.S (Kd.slice 3 (Kd.int .i64)) 22 w' w.heap.size (fun _ => True) v0_ r ∧ Below w.heap.size w w' := by
 induction k using Nat.strongRecOn with
 | _ k ih =>
 intro A0 c0 l0 A1 c1 l1 a2 a3 r w hr0 hc0 hr1 hc1 h
 cases k with
 | zero => exact absurd h (by simp [spec_l7Strips.f])
 | succ k =>
 simp only [spec_l7Strips.f] at h
 have HR0 := Aside0.mk hr0
 have HC0 := Aside0.mk hc0
 clear hr0 hc0
 have HR1 := Aside0.mk hr1
 have HC1 := Aside0.mk hc1
 clear hr1 hc1
 have HB := Aside0.mk (Below.refl w.heap.size w)
 have H : ((some (([] : List (List Int)) : List (List Int))).bind fun y340 => (if a3 = (l1.length : Int) then (if a2 = 0 then (if y340.length < 5864062014805 then (some (y340 ++ [(([] : List Int))])) else (none)) else (some y340)) else (if 0 ≤ a3 then (if a3 < (l1.length : Int) then (if a3 > 0 then ((spec_l2At.f l0 (wrap64 (a3 - 1))).bind fun t350 => ((spec_l1Min.f (rd l1 a3) t350).bind fun t351 => (spec_l7Strips.j0 k l0 l1 a2 a3 y340 t351))) else (spec_l7Strips.j0 k l0 l1 a2 a3 y340 (rd l1 a3))) else (none)) else (none)))) = some r := h
 clear h
 obtain ⟨y340, hy340⟩ : ∃ y_ : List (List Int), y_ = (([] : List (List Int))) := ⟨_, rfl⟩
 replace H : (if a3 = (l1.length : Int) then (if a2 = 0 then (if y340.length < 5864062014805 then (some (y340 ++ [(([] : List Int))])) else (none)) else (some y340)) else (if 0 ≤ a3 then (if a3 < (l1.length : Int) then (if a3 > 0 then ((spec_l2At.f l0 (wrap64 (a3 - 1))).bind fun t350 => ((spec_l1Min.f (rd l1 a3) t350).bind fun t351 => (spec_l7Strips.j0 k l0 l1 a2 a3 y340 t351))) else (spec_l7Strips.j0 k l0 l1 a2 a3 y340 (rd l1 a3))) else (none)) else (none))) = some r := by first | (rw [hy340]; with_reducible exact H) | (have H2_ := (Option.bind_some _ _).symm.trans H; rw [hy340]; with_reducible exact H2_) | (have H2_ := (Option.bind_some _ _).symm.trans H; with_reducible exact H2_) | with_reducible exact H | (rw [hy340]; exact H) | exact H
 have Ny340 := Aside0.mk hy340
 clear hy340
 by_cases c5 : a3 = (l1.length : Int)
 ·
  rw [if_pos c5] at H
  have c5b0 : (a3 == (l1.length : Int)) = true := beq_iff_eq.mpr c5
  have c5b1 : (a3 != (l1.length : Int)) = false := bne_eq_false_iff_eq.mpr c5
  clear c5
  by_cases c6 : a2 = 0
  ·
   rw [if_pos c6] at H
   have c6b0 : (a2 == 0) = true := beq_iff_eq.mpr c6
   have c6b1 : (a2 != 0) = false := bne_eq_false_iff_eq.mpr c6
   clear c6
   obtain ⟨y343, hy343⟩ : ∃ y_ : List Int, y_ = (([] : List Int)) := ⟨_, rfl⟩
   replace H : (if y340.length < 5864062014805 then (some (y340 ++ [y343])) else (none)) = some r := by first | (rw [hy343]; with_reducible exact H) | (have H2_ := (Option.bind_some _ _).symm.trans H; rw [hy343]; with_reducible exact H2_) | (have H2_ := (Option.bind_some _ _).symm.trans H; with_reducible exact H2_) | with_reducible exact H | (rw [hy343]; exact H) | exact H
   have Ny343 := Aside0.mk hy343
   clear hy343
   by_cases c7 : y340.length < 5864062014805
   ·
    rw [if_pos c7] at H
    have LMc7 := Aside0.mk c7
    clear c7
    obtain ⟨y346, hy346⟩ : ∃ y_ : List (List Int), y_ = (y340 ++ [y343]) := ⟨_, rfl⟩
    replace H : (some y346) = some r := by first | (rw [hy346]; with_reducible exact H) | (have H2_ := (Option.bind_some _ _).symm.trans H; rw [hy346]; with_reducible exact H2_) | (have H2_ := (Option.bind_some _ _).symm.trans H; with_reducible exact H2_) | with_reducible exact H | (rw [hy346]; exact H) | exact H
    have Ny346 := Aside0.mk hy346
    clear hy346
    obtain rfl := Option.some.inj H
    go_enter Tryd.func102, Tryd.ntmps102
    go_wp2_with (first | ((with_reducible refine gate_dst (N := 14) rfl ?_); refine Kd.S_lit (Kd.slice 3 (Kd.int .i64)) _ 22 ?hg (N := 14) ?hd (xs := ([] : List (List Int))) (inner := []) (ok := fun _ => True) (okp := fun _ => True) ?hr ?hp (fun _ hk => hk) trivial (Below.refl _ _) (Nat.le_refl _) (by simp) ?_; (case hd => rfl); (case hg => rfl); (case hr => first | (go_simp; done) | (go_simp; rfl)); (case hp => exact (Reps.none _ _)); intro v341 w8 ho9 hb hg_ hnew_; clear hg_ hnew_; (first | rw [← Ny340.out] at ho9 | (simp only [Int.reduceToNat] at ho9; rw [← Ny340.out] at ho9)); have n0_ := Aside0.mk (Kd.S_lower ho9 (below_size (by repeat (first | (with_reducible first | exact HB.out | apply below_alloc | apply pw_below_drewN | apply below_drew1) | exact HB.out)))); have n1_ := Aside0.mk (below_step (by repeat (first | (with_reducible first | exact HB.out | apply below_alloc | apply pw_below_drewN | apply below_drew1) | exact HB.out)) hb); clear HB; have HO342 := n0_; have HB := n1_; clear n0_ n1_; clear hb ho9) | ((with_reducible refine gate_dst (N := 22) rfl ?_); refine Kd.R_lit (Kd.int .i64) _ 3 ?hg (N := 22) ?hd (xs := ([] : List Int)) (inner := []) (ok := fun _ => True) (okp := fun _ => True) ?hr ?hp (fun _ hk => hk) trivial (Below.refl _ _) (Nat.le_refl _) (by simp) ?_; (case hd => rfl); (case hg => rfl); (case hr => first | (go_simp; done) | (go_simp; rfl)); (case hp => exact (Reps.none _ _)); intro v344 w10 ho11 hb hg_ hnew_; clear hg_ hnew_; (first | rw [← Ny343.out] at ho11 | (simp only [Int.reduceToNat] at ho11; rw [← Ny343.out] at ho11)); have n0_ := Aside0.mk (Kd.S_elder' (by (with_reducible repeat (first | apply Kd.S_alloc | apply Kd.S_drewN | apply Kd.S_drew)); exact HO342.out) (Kd.R_base ho11) hb); have n1_ := Aside0.mk (Kd.R_lower ho11 (below_size (by repeat (first | (with_reducible first | exact HB.out | apply below_alloc | apply pw_below_drewN | apply below_drew1) | exact HB.out)))); have n2_ := Aside0.mk (below_step (by repeat (first | (with_reducible first | exact HB.out | apply below_alloc | apply pw_below_drewN | apply below_drew1) | exact HB.out)) hb); clear HO342; clear HB; have HO342 := n0_; have HO345 := n1_; have HB := n2_; clear n0_ n1_ n2_; clear hb ho11; obtain ⟨Ao13, co13, eo13⟩ := Kd.R_slice HO345.out; subst eo13) | ((with_reducible refine gate_builtin (b := .append) (xs := #[.tmp 21, .tmp 23]) rfl ?_); at_builtin; refine Kd.S_append (Kd.slice 3 (Kd.int .i64)) (w0 := w) w.heap.size rfl (.tmp 21) (.tmp 23) 51 22 (.slice none 0 0) 24 rfl Tryd.underlying51 info22 rfl (by decide) (by omega) v341 y340 y343 [.slice Ao13 y343.length co13] (fun _ => True) (fun k_ => some k_ = (.slice Ao13 y343.length co13 : Value).ownBlock) rfl rfl ?aP (fun k_ hk_ => ((Kd.R_mono (ok' := fun k_ => ((fun _ => True)) k_ ∧ some k_ ≠ (v341 : Value).ownBlock) (Kd.R_apart' (HO345.out) (Kd.S_typed HO342.out) (by decide)) (fun k_ hk => ⟨trivial, hk.2⟩))).1 k_ hk_.symm) ?aF ?aO ?aB ?aS ?aL ?_; (case aP => exact Kd.M_row (Kd.R_mono (Kd.R_tight rfl (Kd.R_mono (ok' := fun k_ => ((fun _ => True)) k_ ∧ some k_ ≠ (v341 : Value).ownBlock) (Kd.R_apart' (HO345.out) (Kd.S_typed HO342.out) (by decide)) (fun k_ hk => ⟨trivial, hk.2⟩))) (fun _ h_ => h_))); (case aB => exact (by repeat (first | (with_reducible first | exact HB.out | apply below_alloc | apply pw_below_drewN | apply below_drew1) | exact HB.out))); (case aF => exact (fun _ _ => trivial)); (case aO => exact (by (with_reducible repeat (first | apply Kd.S_alloc | apply Kd.S_drewN | apply Kd.S_drew)); exact Kd.S_mono HO342.out (fun k_ hk => ⟨trivial, fun e_ => hk.2 e_⟩))); (case aS => exact (below_size (by repeat (first | (with_reducible first | exact HB.out | apply below_alloc | apply pw_below_drewN | apply below_drew1) | exact HB.out)))); (case aL => have := LMc7.out; omega); intro v347 w12 ho hb hg hat; rw [← Ny346.out] at ho; have n0_ := Aside0.mk (hb); have n1_ := Aside0.mk (ho); clear HB; clear HO342; clear HO345; have HB := n0_; have HO348 := n1_; clear n0_ n1_; clear ho hb hg hat))
    go_ret
    exact ⟨_, by first | rfl | (simp [errW_none, errW_some] <;> rfl) | (simp [*, errW_none, errW_some] <;> rfl), by (with_reducible repeat (first | apply Kd.S_alloc | apply Kd.S_drewN | apply Kd.S_drew)); exact HO348.out, by repeat (first | (with_reducible first | exact HB.out | apply below_alloc | apply pw_below_drewN | apply below_drew1) | exact HB.out)⟩
   ·
    rw [if_neg c7] at H
    exact absurd H (by simp)
  ·
   rw [if_neg c6] at H
   have c6b0 : (a2 == 0) = false := beq_eq_false_iff_ne.mpr c6
   have c6b1 : (a2 != 0) = true := bne_iff_ne.mpr c6
   obtain rfl := Option.some.inj H
   go_enter Tryd.func102, Tryd.ntmps102
   go_wp2_with (first | ((with_reducible refine gate_dst (N := 14) rfl ?_); refine Kd.S_lit (Kd.slice 3 (Kd.int .i64)) _ 22 ?hg (N := 14) ?hd (xs := ([] : List (List Int))) (inner := []) (ok := fun _ => True) (okp := fun _ => True) ?hr ?hp (fun _ hk => hk) trivial (Below.refl _ _) (Nat.le_refl _) (by simp) ?_; (case hd => rfl); (case hg => rfl); (case hr => first | (go_simp; done) | (go_simp; rfl)); (case hp => exact (Reps.none _ _)); intro v341 w14 ho15 hb hg_ hnew_; clear hg_ hnew_; (first | rw [← Ny340.out] at ho15 | (simp only [Int.reduceToNat] at ho15; rw [← Ny340.out] at ho15)); have n0_ := Aside0.mk (Kd.S_lower ho15 (below_size (by repeat (first | (with_reducible first | exact HB.out | apply below_alloc | apply pw_below_drewN | apply below_drew1) | exact HB.out)))); have n1_ := Aside0.mk (below_step (by repeat (first | (with_reducible first | exact HB.out | apply below_alloc | apply pw_below_drewN | apply below_drew1) | exact HB.out)) hb); clear HB; have HO342 := n0_; have HB := n1_; clear n0_ n1_; clear hb ho15))
   go_ret
   exact ⟨_, by first | rfl | (simp [errW_none, errW_some] <;> rfl) | (simp [*, errW_none, errW_some] <;> rfl), by (with_reducible repeat (first | apply Kd.S_alloc | apply Kd.S_drewN | apply Kd.S_drew)); exact HO342.out, by repeat (first | (with_reducible first | exact HB.out | apply below_alloc | apply pw_below_drewN | apply below_drew1) | exact HB.out)⟩
 ·
  rw [if_neg c5] at H
  have c5b0 : (a3 == (l1.length : Int)) = false := beq_eq_false_iff_ne.mpr c5
  have c5b1 : (a3 != (l1.length : Int)) = true := bne_iff_ne.mpr c5
  by_cases c16 : 0 ≤ a3
  ·
   rw [if_pos c16] at H
   have c16b0 : decide (0 ≤ a3) = true := decide_eq_true c16
   clear c16
   by_cases c17 : a3 < (l1.length : Int)
   ·
    rw [if_pos c17] at H
    have c17b0 : decide (a3 < (l1.length : Int)) = true := decide_eq_true c17
    clear c17
    have HC18 := Aside0.mk H
    clear H
    go_enter Tryd.func102, Tryd.ntmps102
    go_upto_if 31 with (first | ((with_reducible refine gate_dst (N := 14) rfl ?_); refine Kd.S_lit (Kd.slice 3 (Kd.int .i64)) _ 22 ?hg (N := 14) ?hd (xs := ([] : List (List Int))) (inner := []) (ok := fun _ => True) (okp := fun _ => True) ?hr ?hp (fun _ hk => hk) trivial (Below.refl _ _) (Nat.le_refl _) (by simp) ?_; (case hd => rfl); (case hg => rfl); (case hr => first | (go_simp; done) | (go_simp; rfl)); (case hp => exact (Reps.none _ _)); intro v341 w19 ho20 hb hg_ hnew_; clear hg_ hnew_; (first | rw [← Ny340.out] at ho20 | (simp only [Int.reduceToNat] at ho20; rw [← Ny340.out] at ho20)); have n0_ := Aside0.mk (Kd.S_lower ho20 (below_size (by repeat (first | (with_reducible first | exact HB.out | apply below_alloc | apply pw_below_drewN | apply below_drew1) | exact HB.out)))); have n1_ := Aside0.mk (below_step (by repeat (first | (with_reducible first | exact HB.out | apply below_alloc | apply pw_below_drewN | apply below_drew1) | exact HB.out)) hb); clear HB; have HO342 := n0_; have HB := n1_; clear n0_ n1_; clear hb ho20; have p349 : 0 ≤ (a3 : Int) := of_decide_eq_true (by first | (with_reducible assumption) | assumption); have q349 : a3 < (l1.length : Int) := of_decide_eq_true (by first | (with_reducible assumption) | assumption); obtain ⟨ad349, e349, hx349_0⟩ := Kd.at_int HR1.out a3 p349 q349; cases e349; replace hx349_0 := (HB.out.cell (World.block_lt_of_cell? w _ hx349_0)).trans hx349_0; replace p349 := eq_true p349; replace q349 := eq_true q349))
    (try simp only [Act.put, List.setIfInBounds_toArray, List.set_cons_zero, List.set_cons_succ])
    go_cut [10] (fun v10 wc => ∃ (kq : Nat) (x10_17 : Int), v10 = .int .i64 x10_17 ∧ Aside0 (spec_l7Strips.j0 kq l0 l1 a2 a3 y340 x10_17 = some r) ∧ Aside0 (kq ≤ k) ∧ Aside0 (Kd.S (Kd.slice 3 (Kd.int .i64)) 22 wc w.heap.size (fun _ => True) v341 y340) ∧ Aside0 (Below w.heap.size w wc))
    case first =>
     have H := HC18.out
     clear HC18
     by_cases c21 : a3 > 0
     ·
      rw [if_pos c21] at H
      have c21b0 : decide (0 < a3) = true := decide_eq_true c21
      clear c21
      (first | rw [c21b0] | (simp only [i64_w, i32_w]; rw [c21b0]) | skip)
      replace H := Option.bind_eq_some_iff.mp H
      obtain ⟨t350, A220, H⟩ := H
      replace H : ((spec_l1Min.f (rd l1 a3) t350).bind fun t351 => (spec_l7Strips.j0 k l0 l1 a2 a3 y340 t351)) = some r := H
      have A22 := Aside0.mk A220
      clear A220
      replace H := Option.bind_eq_some_iff.mp H
      obtain ⟨t351, A230, H⟩ := H
      replace H : (spec_l7Strips.j0 k l0 l1 a2 a3 y340 t351) = some r := H
      have A23 := Aside0.mk A230
      clear A230
      have H' := Aside0.mk H
      clear H
      go_wp2_with (first | ((with_reducible refine gate_callee (f := 81) rfl ?_); refine goesL_ (some 36) rfl rfl Tryd.func81 (by kernel_rfl) rfl #[.slice A0 l0.length c0, .int .i64 (wrap64 (a3 - 1))] rfl (by (try simp only [List.map_toArray, List.map_cons, List.map_nil]); first | done | rfl | (simp only [List.length_drop, List.length_take]; rfl)) ?_; (with_reducible refine (spec_l2At.calls _ _ l0 (wrap64 (a3 - 1)) t350 _ ?side1 ?side2 A22.out).mono ?_); (case side1 => repeat (first | exact (Kd.C_below HR0.out HB.out) | (with_reducible refine Kd.C_alloc ?_ _) | (with_reducible refine Kd.C_drewN ?_ _) | (with_reducible refine Kd.C_drew ?_))); (case side2 => exact HC0.out); rintro e w' ⟨rfl, ⟨nd, rfl⟩⟩; refine ⟨_, rfl, ?_⟩) | ((with_reducible refine gate_callee (f := 143) rfl ?_); refine goesL_ (some 37) rfl rfl Tryd.func143 (by kernel_rfl) rfl #[.int .i64 (rd l1 a3), .int .i64 t350] rfl (by (try simp only [List.map_toArray, List.map_cons, List.map_nil]); first | done | rfl | (simp only [List.length_drop, List.length_take]; rfl)) ?_; (with_reducible refine (spec_l1Min.calls (rd l1 a3) t350 t351 _ A23.out).mono ?_); rintro e w' ⟨rfl, ⟨nd, rfl⟩⟩; refine ⟨_, rfl, ?_⟩))
      go_meet
      case rel => exact ⟨_, (t351), (by first | rfl | (simp; done) | (simp [*]; done)), H', ⟨by first | omega | exact Nat.le_refl _⟩, ⟨by (with_reducible repeat (first | apply Kd.S_alloc | apply Kd.S_drewN | apply Kd.S_drew)); exact HO342.out⟩, ⟨by repeat (first | (with_reducible first | exact HB.out | apply below_alloc | apply pw_below_drewN | apply below_drew1) | exact HB.out)⟩⟩
     ·
      rw [if_neg c21] at H
      have c21b0 : decide (0 < a3) = false := decide_eq_false c21
      clear c21
      (first | rw [c21b0] | (simp only [i64_w, i32_w]; rw [c21b0]) | skip)
      have H' := Aside0.mk H
      clear H
      go_wp2
      go_meet
      case rel => exact ⟨_, (rd l1 a3), (by first | rfl | (simp; done) | (simp [*]; done)), H', ⟨by first | omega | exact Nat.le_refl _⟩, ⟨by (with_reducible repeat (first | apply Kd.S_alloc | apply Kd.S_drewN | apply Kd.S_drew)); exact HO342.out⟩, ⟨by repeat (first | (with_reducible first | exact HB.out | apply below_alloc | apply pw_below_drewN | apply below_drew1) | exact HB.out)⟩⟩
    case rest =>
     clear HC18
     try clear c1
     try clear c2
     try clear p2
     try clear p3
     try clear q3
     try clear hx3
     try clear c5
     try clear c5b0
     try clear c5b1
     try clear c6
     try clear c6b0
     try clear c6b1
     try clear p6
     try clear c7
     try clear c8
     try clear c10
     try clear c14
     try clear c16
     try clear c16b0
     try clear c17
     try clear c17b0
     try clear c21
     try clear c21b0
     try clear hx349_0
     try clear p349
     try clear q349
     obtain ⟨kq, x10_17, rfl, HA, HJ17, HO_9, HB⟩ := hcut
     cases kq with
     | zero => exact absurd HA.out (by simp [spec_l7Strips.j0])
     | succ kj17 =>
      have H := HA.out
      clear HA
      simp only [spec_l7Strips.j0] at H
      replace H := Option.bind_eq_some_iff.mp H
      obtain ⟨t352, A240, H⟩ := H
      replace H : (spec_l7Strips.l0 kj17 l0 l1 a2 a3 y340 x10_17 t352) = some r := H
      have A24 := Aside0.mk A240
      clear A240
      have H' := Aside0.mk H
      clear H
      go_wp2_with (first | ((with_reducible refine gate_callee (f := 81) rfl ?_); refine goesL_ (some 40) rfl rfl Tryd.func81 (by kernel_rfl) rfl #[.slice A0 l0.length c0, .int .i64 a3] rfl (by (try simp only [List.map_toArray, List.map_cons, List.map_nil]); first | done | rfl | (simp only [List.length_drop, List.length_take]; rfl)) ?_; (with_reducible refine (spec_l2At.calls _ _ l0 a3 t352 _ ?side1 ?side2 A24.out).mono ?_); (case side1 => repeat (first | exact (Kd.C_below HR0.out HB.out) | (with_reducible refine Kd.C_alloc ?_ _) | (with_reducible refine Kd.C_drewN ?_ _) | (with_reducible refine Kd.C_drew ?_))); (case side2 => exact HC0.out); rintro e w' ⟨rfl, ⟨nd, rfl⟩⟩; refine ⟨_, rfl, ?_⟩))
      go_loopg [9, 11] kj17 (fun kq v9 v11 w' => ∃ (x9_2 : List (List Int)) (x11_2 : Int), v11 = .int .i64 x11_2 ∧ Aside0 (spec_l7Strips.l0 kq l0 l1 a2 a3 x9_2 x10_17 x11_2 = some r) ∧ Aside0 (kq ≤ kj17) ∧ Aside0 (Kd.S (Kd.slice 3 (Kd.int .i64)) 22 w' w.heap.size (fun _ => True) v9 x9_2) ∧ Aside0 (Below w.heap.size w w'))
      case atStart => exact ⟨(y340), (t352), (by first | rfl | (simp; done) | (simp [*]; done)), H', ⟨Nat.le_refl _⟩, ⟨by (with_reducible repeat (first | apply Kd.S_alloc | apply Kd.S_drewN | apply Kd.S_drew)); exact HO_9.out⟩, ⟨by repeat (first | (with_reducible first | exact HB.out | apply below_alloc | apply pw_below_drewN | apply below_drew1) | exact HB.out)⟩⟩
      case round =>
       clear H'
       try clear c1
       try clear c2
       try clear p2
       try clear p3
       try clear q3
       try clear hx3
       try clear c5
       try clear c5b0
       try clear c5b1
       try clear c6
       try clear c6b0
       try clear c6b1
       try clear p6
       try clear c7
       try clear c8
       try clear c10
       try clear c14
       try clear c16
       try clear c16b0
       try clear c17
       try clear c17b0
       try clear c21
       try clear c21b0
       try clear hx349_0
       try clear p2
       try clear p3
       try clear p349
       try clear p6
       try clear q3
       try clear q349
       obtain ⟨x9_2, x11_2, rfl, HA, HK2, HO_9, HB⟩ := hrel
       cases gk with
       | zero => exact absurd HA.out (by simp [spec_l7Strips.l0])
       | succ k2 =>
        have H := HA.out
        clear HA
        simp only [spec_l7Strips.l0] at H
        have HC25 := Aside0.mk H
        clear H
        go_upto_region 10 with (fail)
        go_cut [52] (fun v52 wc => ∃ (kq : Nat) (x52_24 : Bool), v52 = .bool x52_24 ∧ Aside0 (spec_l7Strips.j2 kq l0 l1 a2 a3 x9_2 x10_17 x11_2 x52_24 = some r) ∧ Aside0 (kq ≤ k2) ∧ Aside0 (Kd.S (Kd.slice 3 (Kd.int .i64)) 22 wc w.heap.size (fun _ => True) u9 x9_2) ∧ Aside0 (Below w.heap.size w wc))
        case first =>
         have H := HC25.out
         clear HC25
         by_cases c26 : x11_2 ≤ x10_17
         ·
          rw [if_pos c26] at H
          have c26b0 : decide (x11_2 ≤ x10_17) = true := decide_eq_true c26
          clear c26
          (first | rw [c26b0] | (simp only [i64_w, i32_w]; rw [c26b0]) | skip)
          replace H := Option.bind_eq_some_iff.mp H
          obtain ⟨t353, A270, H⟩ := H
          replace H : (spec_l7Strips.j2 k2 l0 l1 a2 a3 x9_2 x10_17 x11_2 (decide ((wrap64 (x11_2 - t353)) ≤ a2))) = some r := H
          have A27 := Aside0.mk A270
          clear A270
          have H' := Aside0.mk H
          clear H
          go_wp2_with (first | (go_at_call 81; (with_reducible refine (spec_l2At.calls _ _ l0 a3 t353 _ ?side1 ?side2 A27.out).mono ?_); (case side1 => repeat (first | exact (Kd.C_below HR0.out HB.out) | (with_reducible refine Kd.C_alloc ?_ _) | (with_reducible refine Kd.C_drewN ?_ _) | (with_reducible refine Kd.C_drew ?_))); (case side2 => exact HC0.out); rintro e w' ⟨rfl, ⟨nd, rfl⟩⟩))
          go_meet
          case rel => exact ⟨_, (decide ((wrap64 (x11_2 - t353)) ≤ a2)), (by first | rfl | (simp; done) | (simp [*]; done)), H', ⟨by have := HJ17.out; have := HK2.out; first | omega | exact Nat.le_refl _⟩, ⟨by (with_reducible repeat (first | apply Kd.S_alloc | apply Kd.S_drewN | apply Kd.S_drew)); exact HO_9.out⟩, ⟨by repeat (first | (with_reducible first | exact HB.out | apply below_alloc | apply pw_below_drewN | apply below_drew1) | exact HB.out)⟩⟩
         ·
          rw [if_neg c26] at H
          have c26b0 : decide (x11_2 ≤ x10_17) = false := decide_eq_false c26
          clear c26
          (first | rw [c26b0] | (simp only [i64_w, i32_w]; rw [c26b0]) | skip)
          have H' := Aside0.mk H
          clear H
          go_wp2
          go_meet
          case rel => exact ⟨_, (false), (by first | rfl | (simp; done) | (simp [*]; done)), H', ⟨by have := HJ17.out; have := HK2.out; first | omega | exact Nat.le_refl _⟩, ⟨by (with_reducible repeat (first | apply Kd.S_alloc | apply Kd.S_drewN | apply Kd.S_drew)); exact HO_9.out⟩, ⟨by repeat (first | (with_reducible first | exact HB.out | apply below_alloc | apply pw_below_drewN | apply below_drew1) | exact HB.out)⟩⟩
        case rest =>
         clear HC25
         try clear c1
         try clear c2
         try clear p2
         try clear p3
         try clear q3
         try clear hx3
         try clear c5
         try clear c5b0
         try clear c5b1
         try clear c6
         try clear c6b0
         try clear c6b1
         try clear p6
         try clear c7
         try clear c8
         try clear c10
         try clear c14
         try clear c16
         try clear c16b0
         try clear c17
         try clear c17b0
         try clear c21
         try clear c21b0
         try clear c26
         try clear c26b0
         try clear hx349_0
         try clear p2
         try clear p3
         try clear p349
         try clear p6
         try clear q3
         try clear q349
         obtain ⟨kq, x52_24, rfl, HA, HJ24, HO_9, HB⟩ := hcut
         cases kq with
         | zero => exact absurd HA.out (by simp [spec_l7Strips.j2])
         | succ kj24 =>
          have H := HA.out
          clear HA
          simp only [spec_l7Strips.j2] at H
          by_cases c28 : x52_24 = true
          ·
           subst c28
           have H1 : ((spec_l2At.f l0 a3).bind fun t354 => ((spec_l7Strips.f kj24 l0 l1 (wrap64 ((wrap64 (a2 - x11_2)) + t354)) (wrap64 (a3 + 1))).bind fun t355 => (spec_l7Strips.l1 kj24 l0 l1 a2 a3 x9_2 x10_17 x11_2 t355 0))) = some r := by rw [if_pos rfl] at H; exact H
           clear H
           have H := H1
           clear H1
           replace H := Option.bind_eq_some_iff.mp H
           obtain ⟨t354, A290, H⟩ := H
           replace H : ((spec_l7Strips.f kj24 l0 l1 (wrap64 ((wrap64 (a2 - x11_2)) + t354)) (wrap64 (a3 + 1))).bind fun t355 => (spec_l7Strips.l1 kj24 l0 l1 a2 a3 x9_2 x10_17 x11_2 t355 0)) = some r := H
           have A29 := Aside0.mk A290
           clear A290
           replace H := Option.bind_eq_some_iff.mp H
           obtain ⟨t355, A300, H⟩ := H
           replace H : (spec_l7Strips.l1 kj24 l0 l1 a2 a3 x9_2 x10_17 x11_2 t355 0) = some r := H
           have A30 := Aside0.mk A300
           clear A300
           have H' := Aside0.mk H
           clear H
           go_wp2_with (first | ((with_reducible refine gate_callee (f := 81) rfl ?_); refine goesL_ (some 62) rfl rfl Tryd.func81 (by kernel_rfl) rfl #[.slice A0 l0.length c0, .int .i64 a3] rfl (by (try simp only [List.map_toArray, List.map_cons, List.map_nil]); first | done | rfl | (simp only [List.length_drop, List.length_take]; rfl)) ?_; (with_reducible refine (spec_l2At.calls _ _ l0 a3 t354 _ ?side1 ?side2 A29.out).mono ?_); (case side1 => repeat (first | exact (Kd.C_below HR0.out HB.out) | (with_reducible refine Kd.C_alloc ?_ _) | (with_reducible refine Kd.C_drewN ?_ _) | (with_reducible refine Kd.C_drew ?_))); (case side2 => exact HC0.out); rintro e w' ⟨rfl, ⟨nd, rfl⟩⟩; refine ⟨_, rfl, ?_⟩) | ((with_reducible refine gate_callee (f := 102) rfl ?_); refine goesL_ (some 66) rfl rfl Tryd.func102 (by kernel_rfl) rfl #[.slice A0 l0.length c0, .slice (some ad349) l1.length c1, .int .i64 (wrap64 ((wrap64 (a2 - x11_2)) + t354)), .int .i64 (wrap64 (a3 + 1))] rfl (by (try simp only [List.map_toArray, List.map_cons, List.map_nil]); first | done | rfl | (simp only [List.length_drop, List.length_take]; rfl)) ?_; (with_reducible refine (ih kj24 (by have := HJ17.out; have := HK2.out; have := HJ24.out; omega) _ _ l0 _ _ l1 (wrap64 ((wrap64 (a2 - x11_2)) + t354)) (wrap64 (a3 + 1)) t355 _ ?side1 ?side2 ?side3 ?side4 A30.out).mono ?_); (case side1 => repeat (first | exact (Kd.C_below HR0.out (by repeat (first | (with_reducible first | exact HB.out | apply below_alloc | apply pw_below_drewN | apply below_drew1) | exact HB.out))) | (with_reducible refine Kd.C_alloc ?_ _) | (with_reducible refine Kd.C_drewN ?_ _) | (with_reducible refine Kd.C_drew ?_))); (case side2 => exact HC0.out); (case side3 => repeat (first | exact (Kd.C_below HR1.out (by repeat (first | (with_reducible first | exact HB.out | apply below_alloc | apply pw_below_drewN | apply below_drew1) | exact HB.out))) | (with_reducible refine Kd.C_alloc ?_ _) | (with_reducible refine Kd.C_drewN ?_ _) | (with_reducible refine Kd.C_drew ?_))); (case side4 => exact HC1.out); rintro e w31 ⟨v356, rfl, ho0, hb⟩; refine ⟨_, rfl, ?_⟩; have n0_ := Aside0.mk (Kd.S_elder' (by (with_reducible repeat (first | apply Kd.S_alloc | apply Kd.S_drewN | apply Kd.S_drew)); exact HO_9.out) (Kd.S_base ho0) hb); have n1_ := Aside0.mk (Kd.S_lower (Kd.S_new' ho0 (Kd.S_lt (by (with_reducible repeat (first | apply Kd.S_alloc | apply Kd.S_drewN | apply Kd.S_drew)); exact HO_9.out))) (below_size (by repeat (first | (with_reducible first | exact HB.out | apply below_alloc | apply pw_below_drewN | apply below_drew1) | exact HB.out)))); have n2_ := Aside0.mk (below_step (by repeat (first | (with_reducible first | exact HB.out | apply below_alloc | apply pw_below_drewN | apply below_drew1) | exact HB.out)) hb); clear HO_9; clear HB; have HO_9 := n0_; have HO357 := n1_; have HB := n2_; clear n0_ n1_ n2_; (try clear hb); (try clear hb2); (try clear hk); (try clear hi); (try clear ho0)))
           go_loopg [9, 13] kj24 (fun kq v9 v13 w' => ∃ (x9_4 : List (List Int)) (x13_4 : Int), v13 = .int .i64 x13_4 ∧ Aside0 (spec_l7Strips.l1 kq l0 l1 a2 a3 x9_4 x10_17 x11_2 t355 x13_4 = some r) ∧ Aside0 (kq ≤ kj24) ∧ Aside0 (Kd.S (Kd.slice 3 (Kd.int .i64)) 22 w' w.heap.size (fun k_ => some k_ ≠ (v356 : Value).ownBlock) v9 x9_4) ∧ Aside0 (Kd.S (Kd.slice 3 (Kd.int .i64)) 22 w' w.heap.size (fun k_ => some k_ ≠ (v9 : Value).ownBlock) v356 t355) ∧ Aside0 (Below w.heap.size w w'))
           case atStart => exact ⟨(x9_2), (0), (by first | rfl | (simp; done) | (simp [*]; done)), H', ⟨Nat.le_refl _⟩, ⟨by (with_reducible repeat (first | apply Kd.S_alloc | apply Kd.S_drewN | apply Kd.S_drew)); exact Kd.S_mono HO_9.out (fun _ hk => hk.2)⟩, ⟨by (with_reducible repeat (first | apply Kd.S_alloc | apply Kd.S_drewN | apply Kd.S_drew)); exact Kd.S_mono HO357.out (fun _ hk => hk.2)⟩, ⟨by repeat (first | (with_reducible first | exact HB.out | apply below_alloc | apply pw_below_drewN | apply below_drew1) | exact HB.out)⟩⟩
           case round =>
            clear H'
            try clear c1
            try clear c2
            try clear p2
            try clear p3
            try clear q3
            try clear hx3
            try clear c5
            try clear c5b0
            try clear c5b1
            try clear c6
            try clear c6b0
            try clear c6b1
            try clear p6
            try clear c7
            try clear c8
            try clear c10
            try clear c14
            try clear c16
            try clear c16b0
            try clear c17
            try clear c17b0
            try clear c21
            try clear c21b0
            try clear c26
            try clear c26b0
            try clear c28
            try clear hx349_0
            try clear p2
            try clear p3
            try clear p349
            try clear p6
            try clear q3
            try clear q349
            obtain ⟨x9_4, x13_4, rfl, HA, HK4, HO_9, HO_12, HB⟩ := hrel
            cases gk with
            | zero => exact absurd HA.out (by simp [spec_l7Strips.l1])
            | succ k4 =>
             have H := HA.out
             clear HA
             simp only [spec_l7Strips.l1] at H
             by_cases c32 : x13_4 < (t355.length : Int)
             ·
              rw [if_pos c32] at H
              have c32b0 : decide (x13_4 < (t355.length : Int)) = true := decide_eq_true c32
              clear c32
              obtain ⟨y358, hy358⟩ : ∃ y_ : List Int, y_ = (([x11_2] : List Int)) := ⟨_, rfl⟩
              replace H : (if 0 ≤ x13_4 then (if y358.length + (rd_L3 t355 x13_4).length < 17592186044416 then (if x9_4.length < 5864062014805 then (spec_l7Strips.l1 k4 l0 l1 a2 a3 (x9_4 ++ [(y358 ++ (rd_L3 t355 x13_4))]) x10_17 x11_2 t355 (wrap64 (x13_4 + 1))) else (none)) else (none)) else (none)) = some r := by first | (rw [hy358]; with_reducible exact H) | (have H2_ := (Option.bind_some _ _).symm.trans H; rw [hy358]; with_reducible exact H2_) | (have H2_ := (Option.bind_some _ _).symm.trans H; with_reducible exact H2_) | with_reducible exact H | (rw [hy358]; exact H) | exact H
              have Ny358 := Aside0.mk hy358
              clear hy358
              by_cases c33 : 0 ≤ x13_4
              ·
               rw [if_pos c33] at H
               have c33b0 : decide (0 ≤ x13_4) = true := decide_eq_true c33
               clear c33
               by_cases c34 : y358.length + (rd_L3 t355 x13_4).length < 17592186044416
               ·
                rw [if_pos c34] at H
                have LMc34 := Aside0.mk c34
                clear c34
                obtain ⟨y362, hy362⟩ : ∃ y_ : List Int, y_ = (y358 ++ (rd_L3 t355 x13_4)) := ⟨_, rfl⟩
                replace H : (if x9_4.length < 5864062014805 then (spec_l7Strips.l1 k4 l0 l1 a2 a3 (x9_4 ++ [y362]) x10_17 x11_2 t355 (wrap64 (x13_4 + 1))) else (none)) = some r := by first | (rw [hy362]; with_reducible exact H) | (have H2_ := (Option.bind_some _ _).symm.trans H; rw [hy362]; with_reducible exact H2_) | (have H2_ := (Option.bind_some _ _).symm.trans H; with_reducible exact H2_) | with_reducible exact H | (rw [hy362]; exact H) | exact H
                have Ny362 := Aside0.mk hy362
                clear hy362
                by_cases c35 : x9_4.length < 5864062014805
                ·
                 rw [if_pos c35] at H
                 have LMc35 := Aside0.mk c35
                 clear c35
                 obtain ⟨y365, hy365⟩ : ∃ y_ : List (List Int), y_ = (x9_4 ++ [y362]) := ⟨_, rfl⟩
                 replace H : (spec_l7Strips.l1 k4 l0 l1 a2 a3 y365 x10_17 x11_2 t355 (wrap64 (x13_4 + 1))) = some r := by first | (rw [hy365]; with_reducible exact H) | (have H2_ := (Option.bind_some _ _).symm.trans H; rw [hy365]; with_reducible exact H2_) | (have H2_ := (Option.bind_some _ _).symm.trans H; with_reducible exact H2_) | with_reducible exact H | (rw [hy365]; exact H) | exact H
                 have Ny365 := Aside0.mk hy365
                 clear hy365
                 have H' := Aside0.mk H
                 clear H
                 obtain ⟨Ao36, co36, eo36⟩ := Kd.S_slice HO_12.out
                 subst eo36
                 go_wp2_with (first | ((with_reducible refine gate_dst (N := 75) rfl ?_); refine Kd.R_lit (Kd.int .i64) _ 3 ?hg (N := 75) ?hd (xs := ([x11_2] : List Int)) (inner := [.int .i64 x11_2]) (ok := fun _ => True) (okp := fun _ => True) ?hr ?hp (fun _ hk => hk) trivial (Below.refl _ _) (Nat.le_refl _) (by simp) ?_; (case hd => rfl); (case hg => rfl); (case hr => first | (go_simp; done) | (go_simp; rfl)); (case hp => exact (Reps.one (show Kd.M (Kd.int .i64) _ _ _ x11_2 [.int .i64 x11_2] from rfl) (Reps.none _ _))); intro v359 w37 ho38 hb hg_ hnew_; clear hg_ hnew_; (first | rw [← Ny358.out] at ho38 | (simp only [Int.reduceToNat] at ho38; rw [← Ny358.out] at ho38)); have n0_ := Aside0.mk (Kd.S_elder' (by (with_reducible repeat (first | apply Kd.S_alloc | apply Kd.S_drewN | apply Kd.S_drew)); exact HO_9.out) (Kd.R_base ho38) hb); have n1_ := Aside0.mk (Kd.S_elder' (by (with_reducible repeat (first | apply Kd.S_alloc | apply Kd.S_drewN | apply Kd.S_drew)); exact HO_12.out) (Kd.R_base ho38) hb); have n2_ := Aside0.mk (Kd.R_lower ho38 (below_size (by repeat (first | (with_reducible first | exact HB.out | apply below_alloc | apply pw_below_drewN | apply below_drew1) | exact HB.out)))); have n3_ := Aside0.mk (below_step (by repeat (first | (with_reducible first | exact HB.out | apply below_alloc | apply pw_below_drewN | apply below_drew1) | exact HB.out)) hb); clear HO_9; clear HO_12; clear HB; have HO_9 := n0_; have HO_12 := n1_; have HO360 := n2_; have HB := n3_; clear n0_ n1_ n2_ n3_; clear hb ho38; have p361 : 0 ≤ (x13_4 : Int) := of_decide_eq_true (by first | (with_reducible assumption) | assumption); have q361 : x13_4 < (t355.length : Int) := of_decide_eq_true (by first | (with_reducible assumption) | assumption); obtain ⟨ad361, A361_0, c361_0, e361, hx361_0, hl361_0, hi361_0⟩ := at_L3 (Kd.S_reads' HO_12.out).2.2 x13_4 p361 q361; cases e361; obtain ⟨ce361, hce361, hMe361, hcc361⟩ := Kd.S_get HO_12.out [] x13_4 p361 (by first | exact q361 | exact of_decide_eq_true (by first | (with_reducible assumption) | assumption) | (have e_ := (Kd.S_reads' HO_12.out).1; omega)); obtain ⟨ve361_0, rfl, ge361_0⟩ := hMe361; have hv361_0 := hcc361 0 _ rfl; rw [Nat.add_zero, show ((Kd.slice 3 (Kd.int .i64))).sz = 1 from rfl, Nat.mul_one] at hv361_0; replace hv361_0 := Option.some.inj (hv361_0.symm.trans hx361_0); rw [hv361_0] at ge361_0; have HL361_0 := Aside0.mk (show Kd.R (Kd.int .i64) 3 _ _ _ _ (rd_L3 t355 x13_4) from ge361_0); clear hv361_0 ge361_0; clear hcc361 hce361; have HR361_0 := Aside0.mk hi361_0; have HC361_0 := Aside0.mk hl361_0; clear hi361_0 hl361_0; replace p361 := eq_true p361; replace q361 := eq_true q361) | ((with_reducible refine gate_builtin (b := .append) (xs := #[.tmp 75, .tmp 79]) rfl ?_); at_builtin; refine Kd.R_append_rows (Kd.int .i64) (w0 := w) w.heap.size rfl (.tmp 75) (.tmp 79) 22 3 (.int .i64 0) 8 rfl Tryd.underlying22 info3 rfl (by decide) (by omega) v359 y358 (rd_L3 t355 x13_4) _ _ _ (fun _ => True) (fun _ => False) rfl rfl ?aO ?aR (fun _ _ h => h) (fun _ h => h.elim) ?aF ?aB ?aS ?aL ?_; (case aR => repeat (first | exact (by repeat (first | (with_reducible exact HR361_0.out) | (with_reducible refine Kd.C_alloc ?_ _) | (with_reducible refine Kd.C_drewN ?_ _) | (with_reducible refine Kd.C_drew ?_) | exact HR361_0.out)) | (with_reducible refine Kd.C_alloc ?_ _) | (with_reducible refine Kd.C_drewN ?_ _) | (with_reducible refine Kd.C_drew ?_))); (case aB => exact (by repeat (first | (with_reducible first | exact HB.out | apply below_alloc | apply pw_below_drewN | apply below_drew1) | exact HB.out))); (case aF => exact (fun _ _ => trivial)); (case aO => exact (by (with_reducible repeat (first | apply Kd.R_alloc | apply Kd.R_drewN | apply Kd.R_drew)); exact HO360.out)); (case aS => exact (below_size (by repeat (first | (with_reducible first | exact HB.out | apply below_alloc | apply pw_below_drewN | apply below_drew1) | exact HB.out)))); (case aL => have := LMc34.out; omega); intro v363 w39 ho hb hg hat; rw [← Ny362.out] at ho; have n0_ := Aside0.mk (Kd.S_after (ok := (fun k_ => some k_ ≠ (.slice (some ad361) t355.length co36 : Value).ownBlock)) (by (with_reducible repeat (first | apply Kd.S_alloc | apply Kd.S_drewN | apply Kd.S_drew)); exact HO_9.out) hg hat); have n1_ := Aside0.mk (Kd.S_after (ok := (fun k_ => some k_ ≠ (u9 : Value).ownBlock)) (by (with_reducible repeat (first | apply Kd.S_alloc | apply Kd.S_drewN | apply Kd.S_drew)); exact HO_12.out) hg hat); have n2_ := Aside0.mk (Kd.R_after (ok := (fun k_ => some k_ ≠ (u9 : Value).ownBlock ∧ some k_ ≠ (.slice (some ad361) t355.length co36 : Value).ownBlock)) (by (with_reducible repeat (first | apply Kd.R_alloc | apply Kd.R_drewN | apply Kd.R_drew)); exact Kd.R_mono HL361_0.out (fun _ hk => ⟨⟨hk.1.1, hk.2⟩, hk.1.2⟩)) hg hat); have n3_ := Aside0.mk (hb); have n4_ := Aside0.mk (ho); clear HO_9; clear HO_12; clear HL361_0; clear HB; clear HO360; have HO_9 := n0_; have HO_12 := n1_; have HL361_0 := n2_; have HB := n3_; have HO364 := n4_; clear n0_ n1_ n2_ n3_ n4_; clear ho hb hg hat; obtain ⟨Ao41, co41, eo41⟩ := Kd.R_slice HO364.out; subst eo41) | ((with_reducible refine gate_builtin (b := .append) (xs := #[.tmp 73, .tmp 81]) rfl ?_); at_builtin; refine Kd.S_append (Kd.slice 3 (Kd.int .i64)) (w0 := w) w.heap.size rfl (.tmp 73) (.tmp 81) 51 22 (.slice none 0 0) 24 rfl Tryd.underlying51 info22 rfl (by decide) (by omega) u9 x9_4 y362 [.slice Ao41 y362.length co41] (fun k_ => some k_ ≠ (.slice (some ad361) t355.length co36 : Value).ownBlock) (fun k_ => some k_ = (.slice Ao41 y362.length co41 : Value).ownBlock) rfl rfl ?aP (fun k_ hk_ => ((Kd.R_mono (ok' := fun k_ => ((fun k_ => some k_ ≠ (.slice (some ad361) t355.length co36 : Value).ownBlock)) k_ ∧ some k_ ≠ (u9 : Value).ownBlock) (Kd.R_apart' (Kd.R_apart' (HO364.out) (Kd.S_typed HO_12.out) (by decide)) (Kd.S_typed HO_9.out) (by decide)) (fun k_ hk => ⟨hk.1.2, hk.2⟩))).1 k_ hk_.symm) ?aF ?aO ?aB ?aS ?aL ?_; (case aP => exact Kd.M_row (Kd.R_mono (Kd.R_tight rfl (Kd.R_mono (ok' := fun k_ => ((fun k_ => some k_ ≠ (.slice (some ad361) t355.length co36 : Value).ownBlock)) k_ ∧ some k_ ≠ (u9 : Value).ownBlock) (Kd.R_apart' (Kd.R_apart' (HO364.out) (Kd.S_typed HO_12.out) (by decide)) (Kd.S_typed HO_9.out) (by decide)) (fun k_ hk => ⟨hk.1.2, hk.2⟩))) (fun _ h_ => h_))); (case aB => exact (by repeat (first | (with_reducible first | exact HB.out | apply below_alloc | apply pw_below_drewN | apply below_drew1) | exact HB.out))); (case aF => exact (fun k_ hk => Kd.fresh' (Kd.S_lt (by (with_reducible repeat (first | apply Kd.S_alloc | apply Kd.S_drewN | apply Kd.S_drew)); exact HO_12.out)) k_ hk)); (case aO => exact (by (with_reducible repeat (first | apply Kd.S_alloc | apply Kd.S_drewN | apply Kd.S_drew)); exact Kd.S_mono HO_9.out (fun k_ hk => ⟨hk.1, fun e_ => hk.2 e_⟩))); (case aS => exact (below_size (by repeat (first | (with_reducible first | exact HB.out | apply below_alloc | apply pw_below_drewN | apply below_drew1) | exact HB.out)))); (case aL => have := LMc35.out; omega); intro v366 w40 ho hb hg hat; rw [← Ny365.out] at ho; have n0_ := Aside0.mk (Kd.S_after (ok := (fun k_ => some k_ ≠ (.slice Ao41 y362.length co41 : Value).ownBlock)) (by (with_reducible repeat (first | apply Kd.S_alloc | apply Kd.S_drewN | apply Kd.S_drew)); exact Kd.S_mono HO_12.out (fun _ hk => ⟨hk.2, hk.1⟩)) hg hat); have n1_ := Aside0.mk (Kd.R_after (ok := (fun k_ => some k_ ≠ (.slice (some ad361) t355.length co36 : Value).ownBlock ∧ some k_ ≠ (.slice Ao41 y362.length co41 : Value).ownBlock)) (by (with_reducible repeat (first | apply Kd.R_alloc | apply Kd.R_drewN | apply Kd.R_drew)); exact Kd.R_mono HL361_0.out (fun _ hk => ⟨⟨hk.1.2, hk.2⟩, hk.1.1⟩)) hg hat); have n2_ := Aside0.mk (hb); have n3_ := Aside0.mk (ho); clear HO_12; clear HL361_0; clear HB; clear HO_9; clear HO364; have HO_12 := n0_; have HL361_0 := n1_; have HB := n2_; have HO367 := n3_; clear n0_ n1_ n2_ n3_; clear ho hb hg hat))
                 go_roundg k4
                 case measure => have := HJ17.out; have := HK2.out; have := HJ24.out; have := HK4.out; omega
                 case rel => exact ⟨(y365), (wrap64 (x13_4 + 1)), (by first | rfl | (simp; done) | (simp [*]; done)), H', ⟨by have := HJ17.out; have := HK2.out; have := HJ24.out; have := HK4.out; omega⟩, ⟨by (with_reducible repeat (first | apply Kd.S_alloc | apply Kd.S_drewN | apply Kd.S_drew)); exact HO367.out⟩, ⟨by (with_reducible repeat (first | apply Kd.S_alloc | apply Kd.S_drewN | apply Kd.S_drew)); exact Kd.S_mono HO_12.out (fun _ hk => hk.2)⟩, ⟨by repeat (first | (with_reducible first | exact HB.out | apply below_alloc | apply pw_below_drewN | apply below_drew1) | exact HB.out)⟩⟩
                ·
                 rw [if_neg c35] at H
                 exact absurd H (by simp)
               ·
                rw [if_neg c34] at H
                exact absurd H (by simp)
              ·
               rw [if_neg c33] at H
               exact absurd H (by simp)
             ·
              rw [if_neg c32] at H
              have c32b0 : decide (x13_4 < (t355.length : Int)) = false := decide_eq_false c32
              clear c32
              have H' := Aside0.mk H
              clear H
              obtain ⟨Ao42, co42, eo42⟩ := Kd.S_slice HO_12.out
              subst eo42
              go_wp2
              go_roundg k4
              case measure => have := HJ17.out; have := HK2.out; have := HJ24.out; have := HK4.out; omega
              case rel => exact ⟨(x9_4), (wrap64 (x11_2 + 1)), (by first | rfl | (simp; done) | (simp [*]; done)), H', ⟨by have := HJ17.out; have := HK2.out; have := HJ24.out; have := HK4.out; omega⟩, ⟨by (with_reducible repeat (first | apply Kd.S_alloc | apply Kd.S_drewN | apply Kd.S_drew)); exact Kd.S_mono HO_9.out (fun _ hk => trivial)⟩, ⟨by repeat (first | (with_reducible first | exact HB.out | apply below_alloc | apply pw_below_drewN | apply below_drew1) | exact HB.out)⟩⟩
          ·
           replace c28 := Bool.eq_false_iff.mpr c28
           subst c28
           have H1 : (some x9_2) = some r := by rw [if_neg (show ¬ (false = true) by decide)] at H; exact H
           clear H
           have H := H1
           clear H1
           obtain rfl := Option.some.inj H
           go_wp2
           go_ret
           exact ⟨_, by first | rfl | (simp [errW_none, errW_some] <;> rfl) | (simp [*, errW_none, errW_some] <;> rfl), by (with_reducible repeat (first | apply Kd.S_alloc | apply Kd.S_drewN | apply Kd.S_drew)); exact HO_9.out, by repeat (first | (with_reducible first | exact HB.out | apply below_alloc | apply pw_below_drewN | apply below_drew1) | exact HB.out)⟩
   ·
    rw [if_neg c17] at H
    exact absurd H (by simp)
  ·
   rw [if_neg c16] at H
   exact absurd H (by simp)
def spec_l7Trim.l0 : Nat → List Int → Int → Option (List Int)
  | 0, _, _ => none
  | k + 1, x0, x3 => if x3 > 0 then (if 0 ≤ (wrap64 (x3 - 1)) then (if (wrap64 (x3 - 1)) < (x0.length : Int) then (if (rd x0 (wrap64 (x3 - 1))) = 0 then (spec_l7Trim.l0 k x0 (wrap64 (x3 - 1))) else ((some (([] : List Int) : List Int)).bind fun y369 => (if 0 ≤ x3 then (if x3 ≤ (x0.length : Int) then (if y369.length + (x0.take (x3 : Int).toNat).length < 17592186044416 then (some (y369 ++ (x0.take (x3 : Int).toNat))) else (none)) else (none)) else (none)))) else (none)) else (none)) else ((some (([] : List Int) : List Int)).bind fun y376 => (if 0 ≤ x3 then (if x3 ≤ (x0.length : Int) then (if y376.length + (x0.take (x3 : Int).toNat).length < 17592186044416 then (some (y376 ++ (x0.take (x3 : Int).toNat))) else (none)) else (none)) else (none)))
def spec_l7Trim.f (k : Nat) (l0 : List Int) : Option (List Int) := spec_l7Trim.l0 k l0 (l0.length : Int)
set_option maxHeartbeats 8000000 in
set_option maxRecDepth 100000 in
theorem spec_l7Trim.calls (k : Nat) (A0 : Option Addr) (c0 : Nat) (l0 : List Int) (r : List Int) (w : World) (hr0 : Kd.C (Kd.int .i64) w A0 l0.length l0) (hc0 : l0.length ≤ c0) (h : spec_l7Trim.f k l0 = some r) :
  Calls Tryd.prog 103 #[.slice A0 l0.length c0] w fun e w' => ∃ v0_ : Value, e = .returned (v0_) ∧ Kd.R (Kd.int .i64) 3 w' w.heap.size (fun _ => True) v0_ r ∧ Below w.heap.size w w' := by
 have HR0 := Aside0.mk hr0
 have HC0 := Aside0.mk hc0
 clear hr0 hc0
 have HB := Aside0.mk (Below.refl w.heap.size w)
 have H : (spec_l7Trim.l0 k l0 (l0.length : Int)) = some r := h
 clear h
 have H' := Aside0.mk H
 clear H
 go_enter Tryd.func103, Tryd.ntmps103
 go_wp2
 go_loopg [3] k (fun kq v3 w' => ∃ (x3_1 : Int), v3 = .int .i64 x3_1 ∧ Aside0 (spec_l7Trim.l0 kq l0 x3_1 = some r) ∧ Aside0 (kq ≤ k) ∧ Aside0 (Below w.heap.size w w'))
 case atStart => exact ⟨((l0.length : Int)), (by first | rfl | (simp; done) | (simp [*]; done)), H', ⟨Nat.le_refl _⟩, ⟨by repeat (first | (with_reducible first | exact HB.out | apply below_alloc | apply pw_below_drewN | apply below_drew1) | exact HB.out)⟩⟩
 case round =>
  clear H'
  try clear c1
  obtain ⟨x3_1, rfl, HA, HK1, HB⟩ := hrel
  cases gk with
  | zero => exact absurd HA.out (by simp [spec_l7Trim.l0])
  | succ k1 =>
   have H := HA.out
   clear HA
   simp only [spec_l7Trim.l0] at H
   by_cases c2 : x3_1 > 0
   ·
    rw [if_pos c2] at H
    have c2b0 : decide (0 < x3_1) = true := decide_eq_true c2
    clear c2
    obtain ⟨ji3, hji3⟩ : ∃ j_ : Int, (wrap64 (x3_1 - 1)) = j_ := ⟨_, rfl⟩
    replace H : (if 0 ≤ (ji3) then (if (ji3) < (l0.length : Int) then (if (rd l0 (ji3)) = 0 then (spec_l7Trim.l0 k1 l0 ji3) else ((some (([] : List Int) : List Int)).bind fun y369 => (if 0 ≤ x3_1 then (if x3_1 ≤ (l0.length : Int) then (if y369.length + (l0.take (x3_1 : Int).toNat).length < 17592186044416 then (some (y369 ++ (l0.take (x3_1 : Int).toNat))) else (none)) else (none)) else (none)))) else (none)) else (none)) = some r := by first | (rw [hji3] at H; exact H) | (simp only [hji3] at H ⊢; exact H)
    have hji3w : (IntKind.i64.wrap (x3_1 - 1)) = ji3 := (i64_w _).trans hji3
    by_cases c4 : 0 ≤ (ji3)
    ·
     rw [if_pos c4] at H
     have c4b0 : decide (0 ≤ (ji3)) = true := decide_eq_true c4
     clear c4
     by_cases c5 : (ji3) < (l0.length : Int)
     ·
      rw [if_pos c5] at H
      have c5b0 : decide ((ji3) < (l0.length : Int)) = true := decide_eq_true c5
      clear c5
      by_cases c6 : (rd l0 (ji3)) = 0
      ·
       rw [if_pos c6] at H
       have c6b0 : ((rd l0 (ji3)) == 0) = true := beq_iff_eq.mpr c6
       have c6b1 : ((rd l0 (ji3)) != 0) = false := bne_eq_false_iff_eq.mpr c6
       clear c6
       have H' := Aside0.mk H
       clear H
       have p368 : 0 ≤ ((ji3) : Int) := of_decide_eq_true (by first | (with_reducible assumption) | assumption)
       have q368 : (ji3) < (l0.length : Int) := of_decide_eq_true (by first | (with_reducible assumption) | assumption)
       obtain ⟨ad368, e368, hx368_0⟩ := Kd.at_int HR0.out (ji3) p368 q368
       cases e368
       replace hx368_0 := (HB.out.cell (World.block_lt_of_cell? w _ hx368_0)).trans hx368_0
       replace p368 := eq_true p368
       replace q368 := eq_true q368
       go_wp2
       go_roundg k1
       case measure => have := HK1.out; omega
       case rel => exact ⟨(ji3), (by first | rfl | (simp; done) | (simp only [← hji3] <;> (first | rfl | simp)) | (simp [*]; done)), H', ⟨by have := HK1.out; omega⟩, ⟨by repeat (first | (with_reducible first | exact HB.out | apply below_alloc | apply pw_below_drewN | apply below_drew1) | exact HB.out)⟩⟩
      ·
       rw [if_neg c6] at H
       have c6b0 : ((rd l0 (ji3)) == 0) = false := beq_eq_false_iff_ne.mpr c6
       have c6b1 : ((rd l0 (ji3)) != 0) = true := bne_iff_ne.mpr c6
       obtain ⟨y369, hy369⟩ : ∃ y_ : List Int, y_ = (([] : List Int)) := ⟨_, rfl⟩
       replace H : (if 0 ≤ x3_1 then (if x3_1 ≤ (l0.length : Int) then (if y369.length + (l0.take (x3_1 : Int).toNat).length < 17592186044416 then (some (y369 ++ (l0.take (x3_1 : Int).toNat))) else (none)) else (none)) else (none)) = some r := by first | (rw [hy369]; with_reducible exact H) | (have H2_ := (Option.bind_some _ _).symm.trans H; rw [hy369]; with_reducible exact H2_) | (have H2_ := (Option.bind_some _ _).symm.trans H; with_reducible exact H2_) | with_reducible exact H | (rw [hy369]; exact H) | exact H
       have Ny369 := Aside0.mk hy369
       clear hy369
       by_cases c7 : 0 ≤ x3_1
       ·
        rw [if_pos c7] at H
        have c7b0 := eq_true c7
        have c7b1 : decide (0 ≤ x3_1) = true := decide_eq_true c7
        clear c7
        by_cases c8 : x3_1 ≤ (l0.length : Int)
        ·
         rw [if_pos c8] at H
         have c8b0 := eq_true c8
         have c8b1 : decide (x3_1 ≤ (l0.length : Int)) = true := decide_eq_true c8
         clear c8
         by_cases c9 : y369.length + (l0.take (x3_1 : Int).toNat).length < 17592186044416
         ·
          rw [if_pos c9] at H
          have LMc9 := Aside0.mk c9
          clear c9
          obtain ⟨y373, hy373⟩ : ∃ y_ : List Int, y_ = (y369 ++ (l0.take (x3_1 : Int).toNat)) := ⟨_, rfl⟩
          replace H : (some y373) = some r := by first | (rw [hy373]; with_reducible exact H) | (have H2_ := (Option.bind_some _ _).symm.trans H; rw [hy373]; with_reducible exact H2_) | (have H2_ := (Option.bind_some _ _).symm.trans H; with_reducible exact H2_) | with_reducible exact H | (rw [hy373]; exact H) | exact H
          have Ny373 := Aside0.mk hy373
          clear hy373
          obtain rfl := Option.some.inj H
          have p368 : 0 ≤ ((ji3) : Int) := of_decide_eq_true (by first | (with_reducible assumption) | assumption)
          have q368 : (ji3) < (l0.length : Int) := of_decide_eq_true (by first | (with_reducible assumption) | assumption)
          obtain ⟨ad368, e368, hx368_0⟩ := Kd.at_int HR0.out (ji3) p368 q368
          cases e368
          replace hx368_0 := (HB.out.cell (World.block_lt_of_cell? w _ hx368_0)).trans hx368_0
          replace p368 := eq_true p368
          replace q368 := eq_true q368
          go_wp2_with (first | ((with_reducible refine gate_dst (N := 18) rfl ?_); refine Kd.R_lit (Kd.int .i64) _ 3 ?hg (N := 18) ?hd (xs := ([] : List Int)) (inner := []) (ok := fun _ => True) (okp := fun _ => True) ?hr ?hp (fun _ hk => hk) trivial (Below.refl _ _) (Nat.le_refl _) (by simp) ?_; (case hd => rfl); (case hg => rfl); (case hr => first | (go_simp; done) | (go_simp; rfl)); (case hp => exact (Reps.none _ _)); intro v370 w10 ho11 hb hg_ hnew_; clear hg_ hnew_; (first | rw [← Ny369.out] at ho11 | (simp only [Int.reduceToNat] at ho11; rw [← Ny369.out] at ho11)); have n0_ := Aside0.mk (Kd.R_lower ho11 (below_size (by repeat (first | (with_reducible first | exact HB.out | apply below_alloc | apply pw_below_drewN | apply below_drew1) | exact HB.out)))); have n1_ := Aside0.mk (below_step (by repeat (first | (with_reducible first | exact HB.out | apply below_alloc | apply pw_below_drewN | apply below_drew1) | exact HB.out)) hb); clear HB; have HO371 := n0_; have HB := n1_; clear n0_ n1_; clear hb ho11; obtain ⟨i012, hi012, _, hsz12, _⟩ := info_parts info3; obtain ⟨hcut12, hA12, hC12⟩ := print_take_of (P := Tryd.prog) (Value.int .i64) 0 22 3 .i64 Tryd.underlying22 hi012 hsz12 (some ad368) c0 l0 x3_1 (of_decide_eq_true (by first | (with_reducible assumption) | assumption)) (of_decide_eq_true (by first | (with_reducible assumption) | assumption)) HC0.out; have HR372 := Aside0.mk (Kd.C_of_reads (h1 := fun _ => rfl) (hA12 _ (Kd.reads_of_C HR0.out))); have HC372 := Aside0.mk hC12; clear hA12 hC12 hi012 hsz12) | ((with_reducible refine gate_builtin (b := .append) (xs := #[.tmp 18, .tmp 21]) rfl ?_); at_builtin; refine Kd.R_append_rows (Kd.int .i64) (w0 := w) w.heap.size rfl (.tmp 18) (.tmp 21) 22 3 (.int .i64 0) 8 rfl Tryd.underlying22 info3 rfl (by decide) (by omega) v370 y369 (l0.take (x3_1 : Int).toNat) _ _ _ (fun _ => True) (fun _ => False) rfl rfl ?aO ?aR (fun _ _ h => h) (fun _ h => h.elim) ?aF ?aB ?aS ?aL ?_; (case aR => first | (refine Eq.mp (congrArg (fun m_ => ReadsRow _ _ _ _ m_ _) (show (l0.take (x3_1 : Int).toNat).length = x3_1.toNat from (by rw [List.length_take]; have h_ : (x3_1 : Int) ≤ (l0.length : Int) := of_decide_eq_true (by first | (with_reducible assumption) | assumption); omega))) ?_; repeat (first | exact (Kd.C_below HR372.out HB.out) | (with_reducible refine Kd.C_alloc ?_ _) | (with_reducible refine Kd.C_drewN ?_ _) | (with_reducible refine Kd.C_drew ?_))) | (repeat (first | exact (Kd.C_below HR372.out HB.out) | (with_reducible refine Kd.C_alloc ?_ _) | (with_reducible refine Kd.C_drewN ?_ _) | (with_reducible refine Kd.C_drew ?_)))); (case aB => exact (by repeat (first | (with_reducible first | exact HB.out | apply below_alloc | apply pw_below_drewN | apply below_drew1) | exact HB.out))); (case aF => exact (fun _ _ => trivial)); (case aO => exact (by (with_reducible repeat (first | apply Kd.R_alloc | apply Kd.R_drewN | apply Kd.R_drew)); exact HO371.out)); (case aS => exact (below_size (by repeat (first | (with_reducible first | exact HB.out | apply below_alloc | apply pw_below_drewN | apply below_drew1) | exact HB.out)))); (case aL => have := LMc9.out; have hlx_ := (show (l0.take (x3_1 : Int).toNat).length = x3_1.toNat from (by rw [List.length_take]; have h_ : (x3_1 : Int) ≤ (l0.length : Int) := of_decide_eq_true (by first | (with_reducible assumption) | assumption); omega)); omega); intro v374 w13 ho hb hg hat; rw [← Ny373.out] at ho; have n0_ := Aside0.mk (hb); have n1_ := Aside0.mk (ho); clear HB; clear HO371; have HB := n0_; have HO375 := n1_; clear n0_ n1_; clear ho hb hg hat))
          go_ret
          exact ⟨_, by first | rfl | (simp [errW_none, errW_some] <;> rfl) | (simp only [← hji3]; first | rfl | (simp [errW_none, errW_some] <;> rfl)) | (simp [*, errW_none, errW_some] <;> rfl), by (with_reducible repeat (first | apply Kd.R_alloc | apply Kd.R_drewN | apply Kd.R_drew)); exact HO375.out, by repeat (first | (with_reducible first | exact HB.out | apply below_alloc | apply pw_below_drewN | apply below_drew1) | exact HB.out)⟩
         ·
          rw [if_neg c9] at H
          exact absurd H (by simp)
        ·
         rw [if_neg c8] at H
         exact absurd H (by simp)
       ·
        rw [if_neg c7] at H
        exact absurd H (by simp)
     ·
      rw [if_neg c5] at H
      exact absurd H (by simp)
    ·
     rw [if_neg c4] at H
     exact absurd H (by simp)
   ·
    rw [if_neg c2] at H
    have c2b0 : decide (0 < x3_1) = false := decide_eq_false c2
    clear c2
    obtain ⟨y376, hy376⟩ : ∃ y_ : List Int, y_ = (([] : List Int)) := ⟨_, rfl⟩
    replace H : (if 0 ≤ x3_1 then (if x3_1 ≤ (l0.length : Int) then (if y376.length + (l0.take (x3_1 : Int).toNat).length < 17592186044416 then (some (y376 ++ (l0.take (x3_1 : Int).toNat))) else (none)) else (none)) else (none)) = some r := by first | (rw [hy376]; with_reducible exact H) | (have H2_ := (Option.bind_some _ _).symm.trans H; rw [hy376]; with_reducible exact H2_) | (have H2_ := (Option.bind_some _ _).symm.trans H; with_reducible exact H2_) | with_reducible exact H | (rw [hy376]; exact H) | exact H
    have Ny376 := Aside0.mk hy376
    clear hy376
    by_cases c14 : 0 ≤ x3_1
    ·
     rw [if_pos c14] at H
     have c14b0 := eq_true c14
     have c14b1 : decide (0 ≤ x3_1) = true := decide_eq_true c14
     clear c14
     by_cases c15 : x3_1 ≤ (l0.length : Int)
     ·
      rw [if_pos c15] at H
      have c15b0 := eq_true c15
      have c15b1 : decide (x3_1 ≤ (l0.length : Int)) = true := decide_eq_true c15
      clear c15
      by_cases c16 : y376.length + (l0.take (x3_1 : Int).toNat).length < 17592186044416
      ·
       rw [if_pos c16] at H
       have LMc16 := Aside0.mk c16
       clear c16
       obtain ⟨y380, hy380⟩ : ∃ y_ : List Int, y_ = (y376 ++ (l0.take (x3_1 : Int).toNat)) := ⟨_, rfl⟩
       replace H : (some y380) = some r := by first | (rw [hy380]; with_reducible exact H) | (have H2_ := (Option.bind_some _ _).symm.trans H; rw [hy380]; with_reducible exact H2_) | (have H2_ := (Option.bind_some _ _).symm.trans H; with_reducible exact H2_) | with_reducible exact H | (rw [hy380]; exact H) | exact H
       have Ny380 := Aside0.mk hy380
       clear hy380
       obtain rfl := Option.some.inj H
       go_wp2_with (first | ((with_reducible refine gate_dst (N := 18) rfl ?_); refine Kd.R_lit (Kd.int .i64) _ 3 ?hg (N := 18) ?hd (xs := ([] : List Int)) (inner := []) (ok := fun _ => True) (okp := fun _ => True) ?hr ?hp (fun _ hk => hk) trivial (Below.refl _ _) (Nat.le_refl _) (by simp) ?_; (case hd => rfl); (case hg => rfl); (case hr => first | (go_simp; done) | (go_simp; rfl)); (case hp => exact (Reps.none _ _)); intro v377 w17 ho18 hb hg_ hnew_; clear hg_ hnew_; (first | rw [← Ny376.out] at ho18 | (simp only [Int.reduceToNat] at ho18; rw [← Ny376.out] at ho18)); have n0_ := Aside0.mk (Kd.R_lower ho18 (below_size (by repeat (first | (with_reducible first | exact HB.out | apply below_alloc | apply pw_below_drewN | apply below_drew1) | exact HB.out)))); have n1_ := Aside0.mk (below_step (by repeat (first | (with_reducible first | exact HB.out | apply below_alloc | apply pw_below_drewN | apply below_drew1) | exact HB.out)) hb); clear HB; have HO378 := n0_; have HB := n1_; clear n0_ n1_; clear hb ho18; obtain ⟨i019, hi019, _, hsz19, _⟩ := info_parts info3; obtain ⟨hcut19, hA19, hC19⟩ := print_take_of (P := Tryd.prog) (Value.int .i64) 0 22 3 .i64 Tryd.underlying22 hi019 hsz19 A0 c0 l0 x3_1 (of_decide_eq_true (by first | (with_reducible assumption) | assumption)) (of_decide_eq_true (by first | (with_reducible assumption) | assumption)) HC0.out; have HR379 := Aside0.mk (Kd.C_of_reads (h1 := fun _ => rfl) (hA19 _ (Kd.reads_of_C HR0.out))); have HC379 := Aside0.mk hC19; clear hA19 hC19 hi019 hsz19) | ((with_reducible refine gate_builtin (b := .append) (xs := #[.tmp 18, .tmp 21]) rfl ?_); at_builtin; refine Kd.R_append_rows (Kd.int .i64) (w0 := w) w.heap.size rfl (.tmp 18) (.tmp 21) 22 3 (.int .i64 0) 8 rfl Tryd.underlying22 info3 rfl (by decide) (by omega) v377 y376 (l0.take (x3_1 : Int).toNat) _ _ _ (fun _ => True) (fun _ => False) rfl rfl ?aO ?aR (fun _ _ h => h) (fun _ h => h.elim) ?aF ?aB ?aS ?aL ?_; (case aR => first | (refine Eq.mp (congrArg (fun m_ => ReadsRow _ _ _ _ m_ _) (show (l0.take (x3_1 : Int).toNat).length = x3_1.toNat from (by rw [List.length_take]; have h_ : (x3_1 : Int) ≤ (l0.length : Int) := of_decide_eq_true (by first | (with_reducible assumption) | assumption); omega))) ?_; repeat (first | exact (Kd.C_below HR379.out HB.out) | (with_reducible refine Kd.C_alloc ?_ _) | (with_reducible refine Kd.C_drewN ?_ _) | (with_reducible refine Kd.C_drew ?_))) | (repeat (first | exact (Kd.C_below HR379.out HB.out) | (with_reducible refine Kd.C_alloc ?_ _) | (with_reducible refine Kd.C_drewN ?_ _) | (with_reducible refine Kd.C_drew ?_)))); (case aB => exact (by repeat (first | (with_reducible first | exact HB.out | apply below_alloc | apply pw_below_drewN | apply below_drew1) | exact HB.out))); (case aF => exact (fun _ _ => trivial)); (case aO => exact (by (with_reducible repeat (first | apply Kd.R_alloc | apply Kd.R_drewN | apply Kd.R_drew)); exact HO378.out)); (case aS => exact (below_size (by repeat (first | (with_reducible first | exact HB.out | apply below_alloc | apply pw_below_drewN | apply below_drew1) | exact HB.out)))); (case aL => have := LMc16.out; have hlx_ := (show (l0.take (x3_1 : Int).toNat).length = x3_1.toNat from (by rw [List.length_take]; have h_ : (x3_1 : Int) ≤ (l0.length : Int) := of_decide_eq_true (by first | (with_reducible assumption) | assumption); omega)); omega); intro v381 w20 ho hb hg hat; rw [← Ny380.out] at ho; have n0_ := Aside0.mk (hb); have n1_ := Aside0.mk (ho); clear HB; clear HO378; have HB := n0_; have HO382 := n1_; clear n0_ n1_; clear ho hb hg hat))
       go_ret
       exact ⟨_, by first | rfl | (simp [errW_none, errW_some] <;> rfl) | (simp [*, errW_none, errW_some] <;> rfl), by (with_reducible repeat (first | apply Kd.R_alloc | apply Kd.R_drewN | apply Kd.R_drew)); exact HO382.out, by repeat (first | (with_reducible first | exact HB.out | apply below_alloc | apply pw_below_drewN | apply below_drew1) | exact HB.out)⟩
      ·
       rw [if_neg c16] at H
       exact absurd H (by simp)
     ·
      rw [if_neg c15] at H
      exact absurd H (by simp)
    ·
     rw [if_neg c14] at H
     exact absurd H (by simp)
mutual
def spec_l7Count.l0 : Nat → List Int → List Int → Int → Int → List (List Int) → Int → Option (Int)
  | 0, _, _, _, _, _, _ => none
  | k + 1, x1, x2, x3, x9, x10, x11 => if x11 < (x10.length : Int) then (if 0 ≤ x11 then ((spec_l7Trim.f k (rd_L3 x10 x11)).bind fun t391 => ((spec_l7Count.f k t391 x1 x2 (wrap64 (x3 + 1))).bind fun t394 => (spec_l7Count.l0 k x1 x2 x3 (wrap64 (x9 + t394)) x10 (wrap64 (x11 + 1))))) else (none)) else (some x9)
def spec_l7Count.f : Nat → List Int → List Int → List Int → Int → Option (Int)
  | 0, _, _, _, _ => none
  | k + 1, l0, l1, l2, a3 => if a3 = (l2.length : Int) then ((spec_l2Size.f k l0).bind fun t383 => ((spec_l2Size.f k l1).bind fun t384 => ((spec_l1Bit.f (t383 == t384)).bind fun t385 => (some t385)))) else (if 0 ≤ a3 then (if a3 < (l2.length : Int) then ((spec_l7Strips.f k l0 l1 (rd l2 a3) 0).bind fun t387 => (spec_l7Count.l0 k l1 l2 a3 0 t387 0)) else (none)) else (none))
end
set_option maxHeartbeats 8000000 in
set_option maxRecDepth 100000 in
theorem spec_l7Count.calls (k : Nat) : ∀ (A0 : Option Addr) (c0 : Nat) (l0 : List Int) (A1 : Option Addr) (c1 : Nat) (l1 : List Int) (A2 : Option Addr) (c2 : Nat) (l2 : List Int) (a3 : Int) (r : Int) (w : World) (hr0 : Kd.C (Kd.int .i64) w A0 l0.length l0) (hc0 : l0.length ≤ c0) (hr1 : Kd.C (Kd.int .i64) w A1 l1.length l1) (hc1 : l1.length ≤ c1) (hr2 : Kd.C (Kd.int .i64) w A2 l2.length l2) (hc2 : l2.length ≤ c2) (h : spec_l7Count.f k l0 l1 l2 a3 = some r),
  Calls Tryd.prog 66 #[.slice A0 l0.length c0, .slice A1 l1.length c1, .slice A2 l2.length c2, .int .i64 a3] w fun e w' => e = .returned (.int .i64 r) ∧ Below w.heap.size w w' := by
 induction k using Nat.strongRecOn with
 | _ k ih =>
 intro A0 c0 l0 A1 c1 l1 A2 c2 l2 a3 r w hr0 hc0 hr1 hc1 hr2 hc2 h
 cases k with
 | zero => exact absurd h (by simp [spec_l7Count.f])
 | succ k =>
 simp only [spec_l7Count.f] at h
 have HR0 := Aside0.mk hr0
 have HC0 := Aside0.mk hc0
 clear hr0 hc0
 have HR1 := Aside0.mk hr1
 have HC1 := Aside0.mk hc1
 clear hr1 hc1
 have HR2 := Aside0.mk hr2
 have HC2 := Aside0.mk hc2
 clear hr2 hc2
 have HB := Aside0.mk (Below.refl w.heap.size w)
 have H : (if a3 = (l2.length : Int) then ((spec_l2Size.f k l0).bind fun t383 => ((spec_l2Size.f k l1).bind fun t384 => ((spec_l1Bit.f (t383 == t384)).bind fun t385 => (some t385)))) else (if 0 ≤ a3 then (if a3 < (l2.length : Int) then ((spec_l7Strips.f k l0 l1 (rd l2 a3) 0).bind fun t387 => (spec_l7Count.l0 k l1 l2 a3 0 t387 0)) else (none)) else (none))) = some r := h
 clear h
 by_cases c5 : a3 = (l2.length : Int)
 ·
  rw [if_pos c5] at H
  have c5b0 : (a3 == (l2.length : Int)) = true := beq_iff_eq.mpr c5
  have c5b1 : (a3 != (l2.length : Int)) = false := bne_eq_false_iff_eq.mpr c5
  clear c5
  replace H := Option.bind_eq_some_iff.mp H
  obtain ⟨t383, A60, H⟩ := H
  replace H : ((spec_l2Size.f k l1).bind fun t384 => ((spec_l1Bit.f (t383 == t384)).bind fun t385 => (some t385))) = some r := H
  have A6 := Aside0.mk A60
  clear A60
  replace H := Option.bind_eq_some_iff.mp H
  obtain ⟨t384, A70, H⟩ := H
  replace H : ((spec_l1Bit.f (t383 == t384)).bind fun t385 => (some t385)) = some r := H
  have A7 := Aside0.mk A70
  clear A70
  replace H := Option.bind_eq_some_iff.mp H
  obtain ⟨t385, A80, H⟩ := H
  replace H : (some t385) = some r := H
  have A8 := Aside0.mk A80
  clear A80
  obtain rfl := Option.some.inj H
  go_enter Tryd.func66, Tryd.ntmps66
  go_wp2_with (first | ((with_reducible refine gate_callee (f := 26) rfl ?_); refine goesL_ (some 17) rfl rfl Tryd.func26 (by kernel_rfl) rfl #[.slice A0 l0.length c0] rfl (by (try simp only [List.map_toArray, List.map_cons, List.map_nil]); first | done | rfl | (simp only [List.length_drop, List.length_take]; rfl)) ?_; (with_reducible refine (spec_l2Size.calls k _ _ l0 t383 _ ?side1 ?side2 A6.out).mono ?_); (case side1 => repeat (first | exact HR0.out | (with_reducible refine Kd.C_alloc ?_ _) | (with_reducible refine Kd.C_drewN ?_ _) | (with_reducible refine Kd.C_drew ?_))); (case side2 => exact HC0.out); rintro e w' ⟨rfl, ⟨nd, rfl⟩⟩; refine ⟨_, rfl, ?_⟩) | ((with_reducible refine gate_callee (f := 26) rfl ?_); refine goesL_ (some 19) rfl rfl Tryd.func26 (by kernel_rfl) rfl #[.slice A1 l1.length c1] rfl (by (try simp only [List.map_toArray, List.map_cons, List.map_nil]); first | done | rfl | (simp only [List.length_drop, List.length_take]; rfl)) ?_; (with_reducible refine (spec_l2Size.calls k _ _ l1 t384 _ ?side1 ?side2 A7.out).mono ?_); (case side1 => repeat (first | exact HR1.out | (with_reducible refine Kd.C_alloc ?_ _) | (with_reducible refine Kd.C_drewN ?_ _) | (with_reducible refine Kd.C_drew ?_))); (case side2 => exact HC1.out); rintro e w' ⟨rfl, ⟨nd, rfl⟩⟩; refine ⟨_, rfl, ?_⟩) | ((with_reducible refine gate_callee (f := 27) rfl ?_); refine goesL_ (some 21) rfl rfl Tryd.func27 (by kernel_rfl) rfl #[.bool (t383 == t384)] rfl (by (try simp only [List.map_toArray, List.map_cons, List.map_nil]); first | done | rfl | (simp only [List.length_drop, List.length_take]; rfl)) ?_; (with_reducible refine (spec_l1Bit.calls (t383 == t384) t385 _ A8.out).mono ?_); rintro e w' ⟨rfl, ⟨nd, rfl⟩⟩; refine ⟨_, rfl, ?_⟩))
  go_ret
  exact ⟨by first | rfl | (simp [errW_none, errW_some] <;> rfl) | (simp [*, errW_none, errW_some] <;> rfl), by repeat (first | (with_reducible first | exact HB.out | apply below_alloc | apply pw_below_drewN | apply below_drew1) | exact HB.out)⟩
 ·
  rw [if_neg c5] at H
  have c5b0 : (a3 == (l2.length : Int)) = false := beq_eq_false_iff_ne.mpr c5
  have c5b1 : (a3 != (l2.length : Int)) = true := bne_iff_ne.mpr c5
  by_cases c9 : 0 ≤ a3
  ·
   rw [if_pos c9] at H
   have c9b0 : decide (0 ≤ a3) = true := decide_eq_true c9
   clear c9
   by_cases c10 : a3 < (l2.length : Int)
   ·
    rw [if_pos c10] at H
    have c10b0 : decide (a3 < (l2.length : Int)) = true := decide_eq_true c10
    clear c10
    replace H := Option.bind_eq_some_iff.mp H
    obtain ⟨t387, A110, H⟩ := H
    replace H : (spec_l7Count.l0 k l1 l2 a3 0 t387 0) = some r := H
    have A11 := Aside0.mk A110
    clear A110
    have H' := Aside0.mk H
    clear H
    have p386 : 0 ≤ (a3 : Int) := of_decide_eq_true (by first | (with_reducible assumption) | assumption)
    have q386 : a3 < (l2.length : Int) := of_decide_eq_true (by first | (with_reducible assumption) | assumption)
    obtain ⟨ad386, e386, hx386_0⟩ := Kd.at_int HR2.out a3 p386 q386
    cases e386
    replace p386 := eq_true p386
    replace q386 := eq_true q386
    go_enter Tryd.func66, Tryd.ntmps66
    go_wp2_with (first | ((with_reducible refine gate_callee (f := 102) rfl ?_); refine goesL_ (some 28) rfl rfl Tryd.func102 (by kernel_rfl) rfl #[.slice A0 l0.length c0, .slice A1 l1.length c1, .int .i64 (rd l2 a3), .int .i64 0] rfl (by (try simp only [List.map_toArray, List.map_cons, List.map_nil]); first | done | rfl | (simp only [List.length_drop, List.length_take]; rfl)) ?_; (with_reducible refine (spec_l7Strips.calls k _ _ l0 _ _ l1 (rd l2 a3) 0 t387 _ ?side1 ?side2 ?side3 ?side4 A11.out).mono ?_); (case side1 => repeat (first | exact HR0.out | (with_reducible refine Kd.C_alloc ?_ _) | (with_reducible refine Kd.C_drewN ?_ _) | (with_reducible refine Kd.C_drew ?_))); (case side2 => exact HC0.out); (case side3 => repeat (first | exact HR1.out | (with_reducible refine Kd.C_alloc ?_ _) | (with_reducible refine Kd.C_drewN ?_ _) | (with_reducible refine Kd.C_drew ?_))); (case side4 => exact HC1.out); rintro e w12 ⟨v388, rfl, ho0, hb⟩; refine ⟨_, rfl, ?_⟩; have n0_ := Aside0.mk (Kd.S_lower ho0 (below_size (by repeat (first | (with_reducible first | exact HB.out | apply below_alloc | apply pw_below_drewN | apply below_drew1) | exact HB.out)))); have n1_ := Aside0.mk (below_step (by repeat (first | (with_reducible first | exact HB.out | apply below_alloc | apply pw_below_drewN | apply below_drew1) | exact HB.out)) hb); clear HB; have HO389 := n0_; have HB := n1_; clear n0_ n1_; (try clear hb); (try clear hb2); (try clear hk); (try clear hi); (try clear ho0)))
    go_loopg [9, 11] k (fun kq v9 v11 w' => ∃ (x9_1 : Int) (x11_1 : Int), v9 = .int .i64 x9_1 ∧ v11 = .int .i64 x11_1 ∧ Aside0 (spec_l7Count.l0 kq l1 l2 a3 x9_1 t387 x11_1 = some r) ∧ Aside0 (kq ≤ k) ∧ Aside0 (Kd.S (Kd.slice 3 (Kd.int .i64)) 22 w' w.heap.size (fun _ => True) v388 t387) ∧ Aside0 (Below w.heap.size w w'))
    case atStart => exact ⟨(0), (0), (by first | rfl | (simp; done) | (simp [*]; done)), (by first | rfl | (simp; done) | (simp [*]; done)), H', ⟨Nat.le_refl _⟩, ⟨by (with_reducible repeat (first | apply Kd.S_alloc | apply Kd.S_drewN | apply Kd.S_drew)); exact HO389.out⟩, ⟨by repeat (first | (with_reducible first | exact HB.out | apply below_alloc | apply pw_below_drewN | apply below_drew1) | exact HB.out)⟩⟩
    case round =>
     clear H'
     try clear c1
     try clear c2
     try clear p2
     try clear p3
     try clear q3
     try clear hx3
     try clear c5
     try clear c5b0
     try clear c5b1
     try clear c6
     try clear c9
     try clear c9b0
     try clear c10
     try clear c10b0
     try clear hx386_0
     try clear p386
     try clear q386
     obtain ⟨x9_1, x11_1, rfl, rfl, HA, HK1, HO_10, HB⟩ := hrel
     cases gk with
     | zero => exact absurd HA.out (by simp [spec_l7Count.l0])
     | succ k1 =>
      have H := HA.out
      clear HA
      simp only [spec_l7Count.l0] at H
      by_cases c13 : x11_1 < (t387.length : Int)
      ·
       rw [if_pos c13] at H
       have c13b0 : decide (x11_1 < (t387.length : Int)) = true := decide_eq_true c13
       clear c13
       by_cases c14 : 0 ≤ x11_1
       ·
        rw [if_pos c14] at H
        have c14b0 : decide (0 ≤ x11_1) = true := decide_eq_true c14
        clear c14
        replace H := Option.bind_eq_some_iff.mp H
        obtain ⟨t391, A150, H⟩ := H
        replace H : ((spec_l7Count.f k1 t391 l1 l2 (wrap64 (a3 + 1))).bind fun t394 => (spec_l7Count.l0 k1 l1 l2 a3 (wrap64 (x9_1 + t394)) t387 (wrap64 (x11_1 + 1)))) = some r := H
        have A15 := Aside0.mk A150
        clear A150
        replace H := Option.bind_eq_some_iff.mp H
        obtain ⟨t394, A160, H⟩ := H
        replace H : (spec_l7Count.l0 k1 l1 l2 a3 (wrap64 (x9_1 + t394)) t387 (wrap64 (x11_1 + 1))) = some r := H
        have A16 := Aside0.mk A160
        clear A160
        have H' := Aside0.mk H
        clear H
        obtain ⟨Ao17, co17, eo17⟩ := Kd.S_slice HO_10.out
        subst eo17
        have p390 : 0 ≤ (x11_1 : Int) := of_decide_eq_true (by first | (with_reducible assumption) | assumption)
        have q390 : x11_1 < (t387.length : Int) := of_decide_eq_true (by first | (with_reducible assumption) | assumption)
        obtain ⟨ad390, A390_0, c390_0, e390, hx390_0, hl390_0, hi390_0⟩ := at_L3 (Kd.S_reads' HO_10.out).2.2 x11_1 p390 q390
        cases e390
        obtain ⟨ce390, hce390, hMe390, hcc390⟩ := Kd.S_get HO_10.out [] x11_1 p390 (by first | exact q390 | exact of_decide_eq_true (by first | (with_reducible assumption) | assumption) | (have e_ := (Kd.S_reads' HO_10.out).1; omega))
        obtain ⟨ve390_0, rfl, ge390_0⟩ := hMe390
        have hv390_0 := hcc390 0 _ rfl
        rw [Nat.add_zero, show ((Kd.slice 3 (Kd.int .i64))).sz = 1 from rfl, Nat.mul_one] at hv390_0
        replace hv390_0 := Option.some.inj (hv390_0.symm.trans hx390_0)
        rw [hv390_0] at ge390_0
        have HL390_0 := Aside0.mk (show Kd.R (Kd.int .i64) 3 _ _ _ _ (rd_L3 t387 x11_1) from ge390_0)
        clear hv390_0 ge390_0
        clear hcc390 hce390
        have HR390_0 := Aside0.mk hi390_0
        have HC390_0 := Aside0.mk hl390_0
        clear hi390_0 hl390_0
        replace p390 := eq_true p390
        replace q390 := eq_true q390
        go_wp2_with (first | ((with_reducible refine gate_callee (f := 103) rfl ?_); refine goesL_ (some 40) rfl rfl Tryd.func103 (by kernel_rfl) rfl #[.slice A390_0 (rd_L3 t387 x11_1).length c390_0] rfl (by (try simp only [List.map_toArray, List.map_cons, List.map_nil]); first | done | rfl | (simp only [List.length_drop, List.length_take]; rfl)) ?_; (with_reducible refine (spec_l7Trim.calls k1 _ _ (rd_L3 t387 x11_1) t391 _ ?side1 ?side2 A15.out).mono ?_); (case side1 => repeat (first | exact (by repeat (first | (with_reducible exact HR390_0.out) | (with_reducible refine Kd.C_alloc ?_ _) | (with_reducible refine Kd.C_drewN ?_ _) | (with_reducible refine Kd.C_drew ?_) | exact HR390_0.out)) | (with_reducible refine Kd.C_alloc ?_ _) | (with_reducible refine Kd.C_drewN ?_ _) | (with_reducible refine Kd.C_drew ?_))); (case side2 => exact HC390_0.out); rintro e w18 ⟨v392, rfl, ho0, hb⟩; refine ⟨_, rfl, ?_⟩; have n0_ := Aside0.mk (Kd.S_elder' (by (with_reducible repeat (first | apply Kd.S_alloc | apply Kd.S_drewN | apply Kd.S_drew)); exact HO_10.out) (Kd.R_base ho0) hb); have n1_ := Aside0.mk (Kd.R_elder' (by (with_reducible repeat (first | apply Kd.R_alloc | apply Kd.R_drewN | apply Kd.R_drew)); exact HL390_0.out) (Kd.R_base ho0) hb); have n2_ := Aside0.mk (Kd.R_lower (Kd.R_new' ho0 (Kd.R_lt (by (with_reducible repeat (first | apply Kd.R_alloc | apply Kd.R_drewN | apply Kd.R_drew)); exact HL390_0.out))) (below_size (by repeat (first | (with_reducible first | exact HB.out | apply below_alloc | apply pw_below_drewN | apply below_drew1) | exact HB.out)))); have n3_ := Aside0.mk (Kd.C_below (by repeat (first | (with_reducible exact HR390_0.out) | (with_reducible refine Kd.C_alloc ?_ _) | (with_reducible refine Kd.C_drewN ?_ _) | (with_reducible refine Kd.C_drew ?_) | exact HR390_0.out)) hb); have n4_ := Aside0.mk (below_step (by repeat (first | (with_reducible first | exact HB.out | apply below_alloc | apply pw_below_drewN | apply below_drew1) | exact HB.out)) hb); clear HO_10; clear HL390_0; clear HR390_0; clear HB; have HO_10 := n0_; have HL390_0 := n1_; have HO393 := n2_; have HR390_0 := n3_; have HB := n4_; clear n0_ n1_ n2_ n3_ n4_; (try clear hb); (try clear hb2); (try clear hk); (try clear hi); (try clear ho0); obtain ⟨Ao19, co19, eo19⟩ := Kd.R_slice HO393.out; subst eo19) | ((with_reducible refine gate_callee (f := 66) rfl ?_); refine goesL_ (some 45) rfl rfl Tryd.func66 (by kernel_rfl) rfl #[.slice Ao19 t391.length co19, .slice A1 l1.length c1, .slice (some ad386) l2.length c2, .int .i64 (wrap64 (a3 + 1))] rfl (by (try simp only [List.map_toArray, List.map_cons, List.map_nil]); first | done | rfl | (simp only [List.length_drop, List.length_take]; rfl)) ?_; (with_reducible refine (ih k1 (by have := HK1.out; omega) _ _ t391 _ _ l1 _ _ l2 (wrap64 (a3 + 1)) t394 _ ?side1 ?side2 ?side3 ?side4 ?side5 ?side6 A16.out).mono ?_); (case side1 => repeat (first | exact (Kd.R_reads' HO393.out).2.2 | (with_reducible refine Kd.C_alloc ?_ _) | (with_reducible refine Kd.C_drewN ?_ _) | (with_reducible refine Kd.C_drew ?_))); (case side2 => exact (Kd.R_reads' HO393.out).2.1); (case side3 => repeat (first | exact (Kd.C_below HR1.out HB.out) | (with_reducible refine Kd.C_alloc ?_ _) | (with_reducible refine Kd.C_drewN ?_ _) | (with_reducible refine Kd.C_drew ?_))); (case side4 => exact HC1.out); (case side5 => repeat (first | exact (Kd.C_below HR2.out HB.out) | (with_reducible refine Kd.C_alloc ?_ _) | (with_reducible refine Kd.C_drewN ?_ _) | (with_reducible refine Kd.C_drew ?_))); (case side6 => exact HC2.out); rintro e w20 ⟨rfl, hb⟩; refine ⟨_, rfl, ?_⟩; have n0_ := Aside0.mk (Kd.S_below (by (with_reducible repeat (first | apply Kd.S_alloc | apply Kd.S_drewN | apply Kd.S_drew)); exact HO_10.out) hb); have n1_ := Aside0.mk (Kd.R_below (by (with_reducible repeat (first | apply Kd.R_alloc | apply Kd.R_drewN | apply Kd.R_drew)); exact HL390_0.out) hb); have n2_ := Aside0.mk (Kd.R_below (by (with_reducible repeat (first | apply Kd.R_alloc | apply Kd.R_drewN | apply Kd.R_drew)); exact HO393.out) hb); have n3_ := Aside0.mk (Kd.C_below (by repeat (first | (with_reducible exact HR390_0.out) | (with_reducible refine Kd.C_alloc ?_ _) | (with_reducible refine Kd.C_drewN ?_ _) | (with_reducible refine Kd.C_drew ?_) | exact HR390_0.out)) hb); have n4_ := Aside0.mk (below_step (by repeat (first | (with_reducible first | exact HB.out | apply below_alloc | apply pw_below_drewN | apply below_drew1) | exact HB.out)) hb); clear HO_10; clear HL390_0; clear HO393; clear HR390_0; clear HB; have HO_10 := n0_; have HL390_0 := n1_; have HO393 := n2_; have HR390_0 := n3_; have HB := n4_; clear n0_ n1_ n2_ n3_ n4_; (try clear hb); (try clear hb2); (try clear hk); (try clear hi)))
        go_roundg k1
        case measure => have := HK1.out; omega
        case rel => exact ⟨(wrap64 (x9_1 + t394)), (wrap64 (x11_1 + 1)), (by first | rfl | (simp; done) | (simp [*]; done)), (by first | rfl | (simp; done) | (simp [*]; done)), H', ⟨by have := HK1.out; omega⟩, ⟨by (with_reducible repeat (first | apply Kd.S_alloc | apply Kd.S_drewN | apply Kd.S_drew)); exact Kd.S_mono HO_10.out (fun _ hk => trivial)⟩, ⟨by repeat (first | (with_reducible first | exact HB.out | apply below_alloc | apply pw_below_drewN | apply below_drew1) | exact HB.out)⟩⟩
       ·
        rw [if_neg c14] at H
        exact absurd H (by simp)
      ·
       rw [if_neg c13] at H
       have c13b0 : decide (x11_1 < (t387.length : Int)) = false := decide_eq_false c13
       clear c13
       obtain rfl := Option.some.inj H
       obtain ⟨Ao21, co21, eo21⟩ := Kd.S_slice HO_10.out
       subst eo21
       go_wp2
       go_ret
       exact ⟨by first | rfl | (simp [errW_none, errW_some] <;> rfl) | (simp [*, errW_none, errW_some] <;> rfl), by repeat (first | (with_reducible first | exact HB.out | apply below_alloc | apply pw_below_drewN | apply below_drew1) | exact HB.out)⟩
   ·
    rw [if_neg c10] at H
    exact absurd H (by simp)
  ·
   rw [if_neg c9] at H
   exact absurd H (by simp)
def spec_KostkaNumber.f (k : Nat) (l0_0 : List Int) (l0_1 : List Int) (l1 : List Int) : Option (Int) := (spec_IsShape.f k l0_0 l0_1).bind fun t396 => (if t396 = true then ((spec_l7Weight.f k l1).bind fun t397 => (if t397 = true then ((spec_l7Count.f k l0_1 l0_0 l1 0).bind fun t398 => (some t398)) else (some 0))) else (some 0))
set_option maxHeartbeats 8000000 in
set_option maxRecDepth 100000 in
theorem spec_KostkaNumber.calls (k : Nat) (A0_0 : Option Addr) (c0_0 : Nat) (l0_0 : List Int) (A0_1 : Option Addr) (c0_1 : Nat) (l0_1 : List Int) (A1 : Option Addr) (c1 : Nat) (l1 : List Int) (r : Int) (w : World) (hr0_0 : Kd.C (Kd.int .i64) w A0_0 l0_0.length l0_0) (hc0_0 : l0_0.length ≤ c0_0) (hr0_1 : Kd.C (Kd.int .i64) w A0_1 l0_1.length l0_1) (hc0_1 : l0_1.length ≤ c0_1) (hr1 : Kd.C (Kd.int .i64) w A1 l1.length l1) (hc1 : l1.length ≤ c1) (h : spec_KostkaNumber.f k l0_0 l0_1 l1 = some r) :
  Calls Tryd.prog 22 #[.agg #[.slice A0_0 l0_0.length c0_0, .slice A0_1 l0_1.length c0_1], .slice A1 l1.length c1] w fun e w' => e = .returned (.int .i64 r) ∧ Below w.heap.size w w' := by
 have hu38 := Tryd.underlying38
 have HR0_0 := Aside0.mk hr0_0
 have HC0_0 := Aside0.mk hc0_0
 clear hr0_0 hc0_0
 have HR0_1 := Aside0.mk hr0_1
 have HC0_1 := Aside0.mk hc0_1
 clear hr0_1 hc0_1
 have HR1 := Aside0.mk hr1
 have HC1 := Aside0.mk hc1
 clear hr1 hc1
 have HB := Aside0.mk (Below.refl w.heap.size w)
 have H : ((spec_IsShape.f k l0_0 l0_1).bind fun t396 => (if t396 = true then ((spec_l7Weight.f k l1).bind fun t397 => (if t397 = true then ((spec_l7Count.f k l0_1 l0_0 l1 0).bind fun t398 => (some t398)) else (some 0))) else (some 0))) = some r := h
 clear h
 replace H := Option.bind_eq_some_iff.mp H
 obtain ⟨t396, A30, H⟩ := H
 replace H : (if t396 = true then ((spec_l7Weight.f k l1).bind fun t397 => (if t397 = true then ((spec_l7Count.f k l0_1 l0_0 l1 0).bind fun t398 => (some t398)) else (some 0))) else (some 0)) = some r := H
 have A3 := Aside0.mk A30
 clear A30
 by_cases c4 : t396 = true
 ·
  subst c4
  have H1 : ((spec_l7Weight.f k l1).bind fun t397 => (if t397 = true then ((spec_l7Count.f k l0_1 l0_0 l1 0).bind fun t398 => (some t398)) else (some 0))) = some r := by rw [if_pos rfl] at H; exact H
  clear H
  have H := H1
  clear H1
  replace H := Option.bind_eq_some_iff.mp H
  obtain ⟨t397, A50, H⟩ := H
  replace H : (if t397 = true then ((spec_l7Count.f k l0_1 l0_0 l1 0).bind fun t398 => (some t398)) else (some 0)) = some r := H
  have A5 := Aside0.mk A50
  clear A50
  by_cases c6 : t397 = true
  ·
   subst c6
   have H1 : ((spec_l7Count.f k l0_1 l0_0 l1 0).bind fun t398 => (some t398)) = some r := by rw [if_pos rfl] at H; exact H
   clear H
   have H := H1
   clear H1
   replace H := Option.bind_eq_some_iff.mp H
   obtain ⟨t398, A70, H⟩ := H
   replace H : (some t398) = some r := H
   have A7 := Aside0.mk A70
   clear A70
   obtain rfl := Option.some.inj H
   go_enter Tryd.func22, Tryd.ntmps22
   go_wp2_with (first | ((with_reducible refine gate_dst (N := 2) rfl ?_); refine box_event ?hg (N := 2) ?hd (cs := #[.slice A0_0 l0_0.length c0_0, .slice A0_1 l0_1.length c0_1]) (t := 38) ?hr ?_; (case hd => rfl); (case hg => rfl); (case hr => first | (go_simp; done) | (go_simp; rfl)); intro gb395 hg w8 hbox hb; have n0_ := Aside0.mk (below_step (by repeat (first | (with_reducible first | exact HB.out | apply below_alloc | apply pw_below_drewN | apply below_drew1) | exact HB.out)) hb); have n1_ := Aside0.mk (hbox); have n2_ := Aside0.mk ((by rw [hg]; exact (below_size (by repeat (first | (with_reducible first | exact HB.out | apply below_alloc | apply pw_below_drewN | apply below_drew1) | exact HB.out))) : w.heap.size ≤ gb395)); have n3_ := Aside0.mk ((by rw [hg]; exact (below_size (by repeat (first | (with_reducible first | exact HB.out | apply below_alloc | apply pw_below_drewN | apply below_drew1) | exact HB.out))) : w.heap.size ≤ gb395)); clear HB; have HB := n0_; have BK395 := n1_; have GW395 := n2_; have GE395 := n3_; clear n0_ n1_ n2_ n3_; clear hb hbox hg; have hcz9_0 : w8.cell? ⟨gb395, 0, none⟩ = some (.slice A0_0 l0_0.length c0_0) := (blk_cell BK395.out 0).trans rfl; have hcz9_1 : w8.cell? ⟨gb395, 1, none⟩ = some (.slice A0_1 l0_1.length c0_1) := (blk_cell BK395.out 1).trans rfl; have hfz9_0 := blk_frozen BK395.out 0; have hfz9_1 := blk_frozen BK395.out 1) | ((with_reducible refine gate_callee (f := 62) rfl ?_); refine goesL_ (some 6) rfl rfl Tryd.func62 (by kernel_rfl) rfl #[.agg #[.slice A0_0 l0_0.length c0_0, .slice A0_1 l0_1.length c0_1]] rfl (by (try simp only [List.map_toArray, List.map_cons, List.map_nil]); first | done | rfl | (simp only [List.length_drop, List.length_take]; rfl)) ?_; (with_reducible refine (spec_IsShape.calls k _ _ l0_0 _ _ l0_1 true _ ?side1 ?side2 ?side3 ?side4 A3.out).mono ?_); (case side1 => repeat (first | exact (Kd.C_below HR0_0.out HB.out) | (with_reducible refine Kd.C_alloc ?_ _) | (with_reducible refine Kd.C_drewN ?_ _) | (with_reducible refine Kd.C_drew ?_))); (case side2 => exact HC0_0.out); (case side3 => repeat (first | exact (Kd.C_below HR0_1.out HB.out) | (with_reducible refine Kd.C_alloc ?_ _) | (with_reducible refine Kd.C_drewN ?_ _) | (with_reducible refine Kd.C_drew ?_))); (case side4 => exact HC0_1.out); rintro e w10 ⟨rfl, hb⟩; refine ⟨_, rfl, ?_⟩; have n0_ := Aside0.mk (blk_below (g := gb395) (o := .cells #[.slice A0_0 l0_0.length c0_0, .slice A0_1 l0_1.length c0_1] 38 (0, 0)) (by (with_reducible repeat (first | refine blk_drewN ?_ _ | refine blk_drew ?_ | refine blk_alloc ?_ _)); exact BK395.out) hb); have n1_ := Aside0.mk (below_step (by repeat (first | (with_reducible first | exact HB.out | apply below_alloc | apply pw_below_drewN | apply below_drew1 | refine below_set ?_ GE395.out) | exact HB.out)) hb); clear BK395; clear HB; have BK395 := n0_; have HB := n1_; clear n0_ n1_; (try clear hb); (try clear hb2); (try clear hk); (try clear hi)) | (go_at_call 65; (with_reducible refine (spec_l7Weight.calls k _ _ l1 true _ ?side1 ?side2 A5.out).mono ?_); (case side1 => repeat (first | exact (Kd.C_below HR1.out HB.out) | (with_reducible refine Kd.C_alloc ?_ _) | (with_reducible refine Kd.C_drewN ?_ _) | (with_reducible refine Kd.C_drew ?_))); (case side2 => exact HC1.out); rintro e w' ⟨rfl, ⟨nd, rfl⟩⟩; have hcz11_0 : w10.cell? ⟨gb395, 0, none⟩ = some (.slice A0_0 l0_0.length c0_0) := (blk_cell BK395.out 0).trans rfl; have hcz11_1 : w10.cell? ⟨gb395, 1, none⟩ = some (.slice A0_1 l0_1.length c0_1) := (blk_cell BK395.out 1).trans rfl; have hfz11_0 := blk_frozen BK395.out 0; have hfz11_1 := blk_frozen BK395.out 1) | ((with_reducible refine gate_callee (f := 66) rfl ?_); refine goesL_ (some 18) rfl rfl Tryd.func66 (by kernel_rfl) rfl #[.slice A0_1 l0_1.length c0_1, .slice A0_0 l0_0.length c0_0, .slice A1 l1.length c1, .int .i64 0] rfl (by (try simp only [List.map_toArray, List.map_cons, List.map_nil]); first | done | rfl | (simp only [List.length_drop, List.length_take]; rfl)) ?_; (with_reducible refine (spec_l7Count.calls k _ _ l0_1 _ _ l0_0 _ _ l1 0 t398 _ ?side1 ?side2 ?side3 ?side4 ?side5 ?side6 A7.out).mono ?_); (case side1 => repeat (first | exact (Kd.C_below HR0_1.out (by repeat (first | (with_reducible first | exact HB.out | apply below_alloc | apply pw_below_drewN | apply below_drew1 | refine below_set ?_ GE395.out) | exact HB.out))) | (with_reducible refine Kd.C_alloc ?_ _) | (with_reducible refine Kd.C_drewN ?_ _) | (with_reducible refine Kd.C_drew ?_))); (case side2 => exact HC0_1.out); (case side3 => repeat (first | exact (Kd.C_below HR0_0.out (by repeat (first | (with_reducible first | exact HB.out | apply below_alloc | apply pw_below_drewN | apply below_drew1 | refine below_set ?_ GE395.out) | exact HB.out))) | (with_reducible refine Kd.C_alloc ?_ _) | (with_reducible refine Kd.C_drewN ?_ _) | (with_reducible refine Kd.C_drew ?_))); (case side4 => exact HC0_0.out); (case side5 => repeat (first | exact (Kd.C_below HR1.out (by repeat (first | (with_reducible first | exact HB.out | apply below_alloc | apply pw_below_drewN | apply below_drew1 | refine below_set ?_ GE395.out) | exact HB.out))) | (with_reducible refine Kd.C_alloc ?_ _) | (with_reducible refine Kd.C_drewN ?_ _) | (with_reducible refine Kd.C_drew ?_))); (case side6 => exact HC1.out); rintro e w12 ⟨rfl, hb⟩; refine ⟨_, rfl, ?_⟩; have n0_ := Aside0.mk (blk_below (g := gb395) (o := .cells #[.slice A0_0 l0_0.length c0_0, .slice A0_1 l0_1.length c0_1] 38 (0, 0)) (by (with_reducible repeat (first | refine blk_drewN ?_ _ | refine blk_drew ?_ | refine blk_alloc ?_ _)); exact BK395.out) hb); have n1_ := Aside0.mk (below_step (by repeat (first | (with_reducible first | exact HB.out | apply below_alloc | apply pw_below_drewN | apply below_drew1 | refine below_set ?_ GE395.out) | exact HB.out)) hb); clear BK395; clear HB; have BK395 := n0_; have HB := n1_; clear n0_ n1_; (try clear hb); (try clear hb2); (try clear hk); (try clear hi)))
   go_ret
   exact ⟨by first | rfl | (simp [errW_none, errW_some] <;> rfl) | (simp [*, errW_none, errW_some] <;> rfl), by repeat (first | (with_reducible first | exact HB.out | apply below_alloc | apply pw_below_drewN | apply below_drew1 | refine below_set ?_ GE395.out) | exact HB.out)⟩
  ·
   replace c6 := Bool.eq_false_iff.mpr c6
   subst c6
   have H1 : (some 0) = some r := by rw [if_neg (show ¬ (false = true) by decide)] at H; exact H
   clear H
   have H := H1
   clear H1
   obtain rfl := Option.some.inj H
   go_enter Tryd.func22, Tryd.ntmps22
   go_wp2_with (first | ((with_reducible refine gate_dst (N := 2) rfl ?_); refine box_event ?hg (N := 2) ?hd (cs := #[.slice A0_0 l0_0.length c0_0, .slice A0_1 l0_1.length c0_1]) (t := 38) ?hr ?_; (case hd => rfl); (case hg => rfl); (case hr => first | (go_simp; done) | (go_simp; rfl)); intro gb395 hg w13 hbox hb; have n0_ := Aside0.mk (below_step (by repeat (first | (with_reducible first | exact HB.out | apply below_alloc | apply pw_below_drewN | apply below_drew1) | exact HB.out)) hb); have n1_ := Aside0.mk (hbox); have n2_ := Aside0.mk ((by rw [hg]; exact (below_size (by repeat (first | (with_reducible first | exact HB.out | apply below_alloc | apply pw_below_drewN | apply below_drew1) | exact HB.out))) : w.heap.size ≤ gb395)); have n3_ := Aside0.mk ((by rw [hg]; exact (below_size (by repeat (first | (with_reducible first | exact HB.out | apply below_alloc | apply pw_below_drewN | apply below_drew1) | exact HB.out))) : w.heap.size ≤ gb395)); clear HB; have HB := n0_; have BK395 := n1_; have GW395 := n2_; have GE395 := n3_; clear n0_ n1_ n2_ n3_; clear hb hbox hg; have hcz14_0 : w13.cell? ⟨gb395, 0, none⟩ = some (.slice A0_0 l0_0.length c0_0) := (blk_cell BK395.out 0).trans rfl; have hcz14_1 : w13.cell? ⟨gb395, 1, none⟩ = some (.slice A0_1 l0_1.length c0_1) := (blk_cell BK395.out 1).trans rfl; have hfz14_0 := blk_frozen BK395.out 0; have hfz14_1 := blk_frozen BK395.out 1) | ((with_reducible refine gate_callee (f := 62) rfl ?_); refine goesL_ (some 6) rfl rfl Tryd.func62 (by kernel_rfl) rfl #[.agg #[.slice A0_0 l0_0.length c0_0, .slice A0_1 l0_1.length c0_1]] rfl (by (try simp only [List.map_toArray, List.map_cons, List.map_nil]); first | done | rfl | (simp only [List.length_drop, List.length_take]; rfl)) ?_; (with_reducible refine (spec_IsShape.calls k _ _ l0_0 _ _ l0_1 true _ ?side1 ?side2 ?side3 ?side4 A3.out).mono ?_); (case side1 => repeat (first | exact (Kd.C_below HR0_0.out HB.out) | (with_reducible refine Kd.C_alloc ?_ _) | (with_reducible refine Kd.C_drewN ?_ _) | (with_reducible refine Kd.C_drew ?_))); (case side2 => exact HC0_0.out); (case side3 => repeat (first | exact (Kd.C_below HR0_1.out HB.out) | (with_reducible refine Kd.C_alloc ?_ _) | (with_reducible refine Kd.C_drewN ?_ _) | (with_reducible refine Kd.C_drew ?_))); (case side4 => exact HC0_1.out); rintro e w15 ⟨rfl, hb⟩; refine ⟨_, rfl, ?_⟩; have n0_ := Aside0.mk (blk_below (g := gb395) (o := .cells #[.slice A0_0 l0_0.length c0_0, .slice A0_1 l0_1.length c0_1] 38 (0, 0)) (by (with_reducible repeat (first | refine blk_drewN ?_ _ | refine blk_drew ?_ | refine blk_alloc ?_ _)); exact BK395.out) hb); have n1_ := Aside0.mk (below_step (by repeat (first | (with_reducible first | exact HB.out | apply below_alloc | apply pw_below_drewN | apply below_drew1 | refine below_set ?_ GE395.out) | exact HB.out)) hb); clear BK395; clear HB; have BK395 := n0_; have HB := n1_; clear n0_ n1_; (try clear hb); (try clear hb2); (try clear hk); (try clear hi)) | (go_at_call 65; (with_reducible refine (spec_l7Weight.calls k _ _ l1 false _ ?side1 ?side2 A5.out).mono ?_); (case side1 => repeat (first | exact (Kd.C_below HR1.out HB.out) | (with_reducible refine Kd.C_alloc ?_ _) | (with_reducible refine Kd.C_drewN ?_ _) | (with_reducible refine Kd.C_drew ?_))); (case side2 => exact HC1.out); rintro e w' ⟨rfl, ⟨nd, rfl⟩⟩))
   go_ret
   exact ⟨by first | rfl | (simp [errW_none, errW_some] <;> rfl) | (simp [*, errW_none, errW_some] <;> rfl), by repeat (first | (with_reducible first | exact HB.out | apply below_alloc | apply pw_below_drewN | apply below_drew1 | refine below_set ?_ GE395.out) | exact HB.out)⟩
 ·
  replace c4 := Bool.eq_false_iff.mpr c4
  subst c4
  have H1 : (some 0) = some r := by rw [if_neg (show ¬ (false = true) by decide)] at H; exact H
  clear H
  have H := H1
  clear H1
  obtain rfl := Option.some.inj H
  go_enter Tryd.func22, Tryd.ntmps22
  go_wp2_with (first | ((with_reducible refine gate_dst (N := 2) rfl ?_); refine box_event ?hg (N := 2) ?hd (cs := #[.slice A0_0 l0_0.length c0_0, .slice A0_1 l0_1.length c0_1]) (t := 38) ?hr ?_; (case hd => rfl); (case hg => rfl); (case hr => first | (go_simp; done) | (go_simp; rfl)); intro gb395 hg w16 hbox hb; have n0_ := Aside0.mk (below_step (by repeat (first | (with_reducible first | exact HB.out | apply below_alloc | apply pw_below_drewN | apply below_drew1) | exact HB.out)) hb); have n1_ := Aside0.mk (hbox); have n2_ := Aside0.mk ((by rw [hg]; exact (below_size (by repeat (first | (with_reducible first | exact HB.out | apply below_alloc | apply pw_below_drewN | apply below_drew1) | exact HB.out))) : w.heap.size ≤ gb395)); have n3_ := Aside0.mk ((by rw [hg]; exact (below_size (by repeat (first | (with_reducible first | exact HB.out | apply below_alloc | apply pw_below_drewN | apply below_drew1) | exact HB.out))) : w.heap.size ≤ gb395)); clear HB; have HB := n0_; have BK395 := n1_; have GW395 := n2_; have GE395 := n3_; clear n0_ n1_ n2_ n3_; clear hb hbox hg; have hcz17_0 : w16.cell? ⟨gb395, 0, none⟩ = some (.slice A0_0 l0_0.length c0_0) := (blk_cell BK395.out 0).trans rfl; have hcz17_1 : w16.cell? ⟨gb395, 1, none⟩ = some (.slice A0_1 l0_1.length c0_1) := (blk_cell BK395.out 1).trans rfl; have hfz17_0 := blk_frozen BK395.out 0; have hfz17_1 := blk_frozen BK395.out 1) | ((with_reducible refine gate_callee (f := 62) rfl ?_); refine goesL_ (some 6) rfl rfl Tryd.func62 (by kernel_rfl) rfl #[.agg #[.slice A0_0 l0_0.length c0_0, .slice A0_1 l0_1.length c0_1]] rfl (by (try simp only [List.map_toArray, List.map_cons, List.map_nil]); first | done | rfl | (simp only [List.length_drop, List.length_take]; rfl)) ?_; (with_reducible refine (spec_IsShape.calls k _ _ l0_0 _ _ l0_1 false _ ?side1 ?side2 ?side3 ?side4 A3.out).mono ?_); (case side1 => repeat (first | exact (Kd.C_below HR0_0.out HB.out) | (with_reducible refine Kd.C_alloc ?_ _) | (with_reducible refine Kd.C_drewN ?_ _) | (with_reducible refine Kd.C_drew ?_))); (case side2 => exact HC0_0.out); (case side3 => repeat (first | exact (Kd.C_below HR0_1.out HB.out) | (with_reducible refine Kd.C_alloc ?_ _) | (with_reducible refine Kd.C_drewN ?_ _) | (with_reducible refine Kd.C_drew ?_))); (case side4 => exact HC0_1.out); rintro e w18 ⟨rfl, hb⟩; refine ⟨_, rfl, ?_⟩; have n0_ := Aside0.mk (blk_below (g := gb395) (o := .cells #[.slice A0_0 l0_0.length c0_0, .slice A0_1 l0_1.length c0_1] 38 (0, 0)) (by (with_reducible repeat (first | refine blk_drewN ?_ _ | refine blk_drew ?_ | refine blk_alloc ?_ _)); exact BK395.out) hb); have n1_ := Aside0.mk (below_step (by repeat (first | (with_reducible first | exact HB.out | apply below_alloc | apply pw_below_drewN | apply below_drew1 | refine below_set ?_ GE395.out) | exact HB.out)) hb); clear BK395; clear HB; have BK395 := n0_; have HB := n1_; clear n0_ n1_; (try clear hb); (try clear hb2); (try clear hk); (try clear hi)))
  go_ret
  exact ⟨by first | rfl | (simp [errW_none, errW_some] <;> rfl) | (simp [*, errW_none, errW_some] <;> rfl), by repeat (first | (with_reducible first | exact HB.out | apply below_alloc | apply pw_below_drewN | apply below_drew1 | refine below_set ?_ GE395.out) | exact HB.out)⟩
end Go.Proofs.YtppkfgcnmaifmaaDoor.Hb
namespace Go.Proofs
open Go.Shelf
def Tryd.conF_ren : Go.Shelf.Ren := ⟨fun | 8 => 122 | 6 => 151 | n => n, fun | 22 => 22 | 23 => 3 | 25 => 107 | 4 => 4 | 3 => 3 | 0 => 0 | n => n, fun | n => n⟩
theorem Tryd.conF : Go.Proofs.SlLaysH.n8 Tryd.prog Tryd.conF_ren := {
  mixed := by kernel_rfl
  f6 := ⟨Tryd.f151.name, by decide, Tryd.func151.trans (congrArg some (by kernel_rfl))⟩
  f8 := ⟨Tryd.f122.name, by decide, Tryd.func122.trans (congrArg some (by kernel_rfl))⟩
  t0 := Tryd.underlying0
  a0 := Tryd.isAgg0
  z0 := Tryd.sizeOf0
  v0 := Tryd.zeroValue0
  t3 := Tryd.underlying3
  a3 := Tryd.isAgg3
  z3 := Tryd.sizeOf3
  v3 := Tryd.zeroValue3
  t4 := Tryd.underlying4
  a4 := Tryd.isAgg4
  z4 := Tryd.sizeOf4
  v4 := Tryd.zeroValue4
  t22 := Tryd.underlying22
  a22 := Tryd.isAgg22
  z22 := Tryd.sizeOf22
  v22 := Tryd.zeroValue22
  a23 := Tryd.isAgg3
  z23 := Tryd.sizeOf3
  t25 := Tryd.underlying107
  a25 := Tryd.isAgg107
  z25 := Tryd.sizeOf107
  v25 := Tryd.zeroValue107 }
end Go.Proofs
