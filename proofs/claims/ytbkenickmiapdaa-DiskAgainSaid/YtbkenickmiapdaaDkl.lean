/- DERIVED. Package disk: List. -/
import Derived.Test.YtbkenickmiapdaaDkc
import Derived.RangeFuncBox
namespace Go.Proofs.Ytbkenickmiapdaa
set_option linter.unusedVariables false
set_option linter.unusedSimpArgs false
open Go.RowKit Go.Shelf
attribute [local go_sem] Oper.semAt_some

theorem str_info : (Try.prog.info? 9).map (fun i => (i.zero, i.size, i.bytes)) = some (some (.string ⟨#[]⟩), 1, 16) := by kernel_rfl

theorem wpListIn_append_run {F : Fence} {n : Nat} {P : Program} {w w' : World} {ops : Array Oper} {rest : List Oper} {o : Oper} {a : Act} {Q : Exit → Act → World → Prop} {v' : Value} (hgd : o.guard = none) (s x : Operand) (t : TypeId)
    (ho : o.op = .call { callee := .builtin .append, args := #[s, x], argTypes := #[t, t] }) (hrun : (Builtin.append_ #[t, t] o.type #[a.eval s, a.eval x]).run P w = .ok v' w')
    (h : wpListIn F n P ops Q rest (a.put o.dst v') w') : wpListIn F n P ops Q (o :: rest) a w := by
  refine wpListIn_plain hgd fun K hK => ?_
  unfold Oper.wpIn
  refine ⟨?_, ?_⟩
  · simp [Oper.about, ho, resolve, Target.leads, Sem.run_pure]
  · rw [Oper.semAt_plain F _ _ (by rw [ho]; intro c hc'; cases hc')]
    simp [execOp, ho, resolve, invoke, builtin, hrun, Result.andThen]
    exact hK _ _ h

/-- append of a text onto texts. -/
theorem run_append_str (w : World) (base : Nat) (ty : TypeId) (v : Value) (l : List Nm) (hown : w.ownsRow base 9 1 v l.length (l.map strV)) (B : Nat) (A : Option Addr) (c : Nat) (m : List Nm) (hr : Reads w B 1 A m.length (m.map strV))
    (hbytes : l.length + m.length ≤ 1000000000000) (hbase : base ≤ w.heap.size) :
    ∃ v' w', (Builtin.append_ #[36, 36] ty #[v, .slice A m.length c]).run Try.prog w = .ok v' w' ∧ w'.ownsRow base 9 1 v' (l ++ m).length ((l ++ m).map strV) ∧ w.grownBy w' v.ownBlock ∧
      (v'.ownBlock = v.ownBlock ∨ v'.ownBlock = some w.heap.size) := by
  obtain ⟨i0, hi, hz0, hz1, hz2⟩ := info_parts str_info
  obtain ⟨v', w', h1, h2, h3, h4⟩ := run_append_any (P := Try.prog) w base 36 ty 9 i0 _ 1 16 Try.underlying36 hi hz0 hz1 hz2 rfl (by omega) v _ _ hown B A m.length c _ hr (by
    intro u hu
    obtain ⟨s, _, rfl⟩ := List.mem_map.1 hu
    rfl) (by simp only [maxLen]; omega) (by omega) hbase
  exact ⟨v', w', h1, by simpa using h2, h3, h4⟩

/-- What the slice in a box owns. -/
def ownAt (W : World) (Bx : Nat) : Option Nat := (W.cell? ⟨Bx, 0, none⟩).bind Value.ownBlock
/-- A round may turn the box Bx, and the row of the slice in it. -/
def KpB (Bx : Nat) (W W' : World) : Prop := W.heap.size ≤ W'.heap.size ∧ (∀ (k : Nat) (cs : Array Value) (t : TypeId) (z : Nat × Nat), k ≠ Bx → ownAt W Bx ≠ some k → W.heap[k]? = some (.cells cs t z) → W'.heap[k]? = some (.cells cs t z)) ∧
  (ownAt W' Bx = ownAt W Bx ∨ ∃ r, ownAt W' Bx = some r ∧ W.heap.size ≤ r)
theorem KpB.trans {Bx : Nat} {A B C : World} (h : KpB Bx A B) (k : KpB Bx B C) : KpB Bx A C := by
  refine ⟨Nat.le_trans h.1 k.1, fun i cs t z h1 h2 h3 => k.2.1 i cs t z h1 ?_ (h.2.1 i cs t z h1 h2 h3), ?_⟩
  · have hi := (Array.getElem?_eq_some_iff.1 h3).1
    rcases h.2.2 with e | ⟨r, e, hr⟩ <;> rw [e]
    · exact h2
    · intro e2; injection e2 with e2; omega
  · have h1 := h.1
    rcases k.2.2 with e | ⟨r, e, hr⟩
    · rcases h.2.2 with e' | ⟨r, e', hr⟩
      · exact .inl (e.trans e')
      · exact .inr ⟨r, e.trans e', hr⟩
    · exact .inr ⟨r, e, by omega⟩
theorem KpB.book {Bx : Nat} {w : World} (hB : Bx < w.heap.size) (W : World) (l : Nat) (o o' : Obj) (hl : w.heap.size ≤ l) (h : W.heap[l]? = some o) (hc : o.isCells = false) (_ : o.isWalk = false) : KpB Bx W (W.putObj l o') := by
  refine ⟨by simp, fun k cs t z _ _ hk => (World.putObj_heap_other (fun e => by subst e; rw [h] at hk; injection hk with hk; subst hk; cases hc)).trans hk, .inl ?_⟩
  unfold ownAt
  rw [World.cell?_of_block (w := W) (World.putObj_heap_other (by show Bx ≠ l; omega))]

set_option maxRecDepth 100000 in
set_option maxHeartbeats 2000000 in
theorem dk_appendseq (b mb Bn : Nat) (L : List (Nm × FB)) (lim : Int) (down : Bool) (w : World) (hA : DkAt w b mb L lim down) (hBn : w.cell? ⟨Bn, 0, none⟩ = some (.pointer (some ⟨b, 0, none⟩))) (hBl : Bn < w.heap.size) (hs : fSort L) (hl : L.length ≤ 1000000) :
    Calls Try.prog 50 #[.slice none 0 0, .func (.func 47) #[] #[.pointer (some ⟨Bn, 0, none⟩)]] w fun e w' => ∃ v, e = .returned v ∧ w'.ownsRow w.heap.size 9 1 v L.length ((L.map (·.1)).map strV) ∧ Below w.heap.size w w' := by
  refine (callsIn_wide (n := 6)).1 ?_
  refine callsIn_of_wp_marks Try.func50 rfl trivial ?_ rfl
  simp only [Try.ntmps50, List.size_toArray, List.length_cons, List.length_nil, Nat.reduceAdd, Nat.reduceSub, Array.replicate_succ, Array.replicate_zero, List.push_toArray, List.append_toArray, List.nil_append, List.cons_append]
  gi_wp2_with fail
  have hB1 : Below w.heap.size w (w.alloc (.cells #[.slice none 0 0] 36)) := (Below.refl _ w).alloc (Nat.le_refl _) _
  have hA1 : DkAt (w.alloc (.cells #[.slice none 0 0] 36)) b mb L lim down := hA.below (B := 0) hB1
  have hBn1 : (w.alloc (.cells #[.slice none 0 0] 36)).cell? ⟨Bn, 0, none⟩ = some (.pointer (some ⟨b, 0, none⟩)) := (hB1.cell hBl).trans hBn
  have bO := Boxed.new w 36 (.slice none 0 0)
  have ho1 : ownAt (w.alloc (.cells #[.slice none 0 0] 36)) w.heap.size = none := by
    unfold ownAt; rw [bO.cell]; rfl
  refine wpIn_rangeFunc_ownG rfl (by omega) (gf := 47) (lb := #[.pointer (some ⟨Bn, 0, none⟩)]) rfl trivial (enters_of Try.func47 (by kernel_rfl) rfl)
    (names_stops 5 (by omega) (KpB w.heap.size) (fun W g => g ≠ w.heap.size ∧ ownAt W w.heap.size ≠ some g) (fun W1 W' g cs t z hk hs hg => ⟨hk.2.1 g cs t z hs.1 hs.2 hg, hs.1, by
        have := (Array.getElem?_eq_some_iff.1 hg).1
        rcases hk.2.2 with e | ⟨r, e, hr⟩ <;> rw [e]
        · exact hs.2
        · intro e2; injection e2 with e2; omega⟩)
      (fun W' hW' g w2 hg hW2 => by
        have h1 := hW'.size
        simp at h1
        refine ⟨by omega, ?_⟩
        have e : ownAt w2 w.heap.size = none := by
          rw [← ho1]
          unfold ownAt
          rw [hW2.cell (p := ⟨w.heap.size, 0, none⟩) (show w.heap.size < W'.heap.size by omega), hW'.cell (p := ⟨w.heap.size, 0, none⟩) (by simp)]
        rw [e]; simp) hBn1 (by simp; omega) hA1 hs hl) (fun h k => h.trans k) (KpB.book (by simp)) (Below.refl _ _) (fun _ => rfl)
    (fun (pre : List (NmOf L)) W => (∃ v, Boxed W w.heap.size 36 v ∧ W.ownsRow w.heap.size 9 1 v pre.length ((pre.map (·.1)).map strV) ∧ True) ∧ Below w.heap.size w W) (fun _ _ _ => False)
    (OwnFrom.and (Own.from (holdsRow_own w.heap.size w.heap.size 36 9 1 (fun (pre : List (NmOf L)) => pre.length) (fun pre => (pre.map (·.1)).map strV) (fun _ _ => True)) _) (ownFrom_below (Nat.le_refl _) (by simp))) (fun _ _ _ _ _ hs _ _ => hs)
    ⟨⟨_, bO, World.ownsRow_nil _ _ _ _, trivial⟩, hB1⟩
    (fun x => { tmps := #[.slice none 0 0, .func (.func 47) #[] #[.pointer (some ⟨Bn, 0, none⟩)], .pointer (some ⟨w.heap.size, 0, none⟩), undef, .slice none 0 0, .string ⟨x.1.toArray⟩, .func (.func 47) #[] #[.pointer (some ⟨Bn, 0, none⟩)], .string ⟨x.1.toArray⟩, undef, undef, undef, undef, undef], defers := [] }) ?assign ?body ?done ?stop
  case assign =>
    intro l x W K hK
    gi_wp2
    exact hK
  case stop =>
    rintro D c pre W _ _ h _
    exact h.elim
  case body =>
    rintro l pre x W ⟨⟨v, hv, hrow, _⟩, hB⟩ hlt
    have hc := hv.cell
    have hlen : pre.length = (pre.map (·.1)).length := by simp
    rw [hlen] at hrow
    have hr : Reads (W.alloc (.cells #[.string ⟨x.1.toArray⟩] 9)) (W.heap.size + 1) 1 (some ⟨W.heap.size, 0, none⟩) [x.1].length ([x.1].map strV) := by
      refine ⟨by simp, fun _ => ⟨_, rfl, by simp, fun j u hu => ?_⟩⟩
      have : j = 0 := by
        have := (List.getElem?_eq_some_iff.1 hu).1
        simpa using this
      subst this
      rw [addr_add]
      simp at hu
      subst hu
      simp [strV]
    obtain ⟨v', w1, hrun, hown', hgrow, hvb⟩ := run_append_str (W.alloc (.cells #[.string ⟨x.1.toArray⟩] 9)) w.heap.size 36 v (pre.map (·.1)) (hrow.alloc _) _ _ 1 [x.1] hr (by simp; omega) (by have := hB.size; simp; omega)
    obtain ⟨A', c', rfl, _⟩ := slice_form hown'
    obtain ⟨A0, c0, rfl, _⟩ := slice_form hrow
    obtain ⟨hv1, hv2, hr2, hk2, hb2⟩ := hv.appended (by decide) hrow hB.size (Nat.le_refl _) hown' hgrow
    have hc1 := hv1.cell
    have hf1 := hv1.frozen
    obtain ⟨np, hnp⟩ : ∃ np, (pre.map (·.1)).length = np := ⟨_, rfl⟩
    have e2 : (pre.map (·.1) ++ [x.1]).length = np + 1 := by rw [List.length_append, hnp]; rfl
    simp only [List.length_singleton] at hrun
    rw [hnp, e2] at hrun
    rw [hnp] at hc hc1 hv1 hv hgrow hvb hrow
    rw [e2] at hv2 hr2 hk2 hb2 hvb
    have HNP := hide hnp
    have HV1 := hide hv1
    have HV2 := hide hv2
    have HR2 := hide hr2
    have HK2 := hide hk2
    have HB2 := hide hb2
    have HB := hide hB
    have HV := hide hv
    have HG := hide hgrow
    have HVB := hide hvb
    have HROW := hide hrow
    clear hlen hnp e2 hv1 hv2 hr2 hk2 hb2 hB hgrow hvb hown' hrow hv hr hA1 hA hBn1 hBn bO ho1 hB1
    gi_wp2_with (gi_at_builtin; refine wpListIn_append_run rfl _ _ _ rfl hrun ?_)
    refine ⟨HK2.out.from _, ⟨by have := HG.out.size; simp at this ⊢; omega, ?_, ?_⟩, ⟨_, HV2.out, ?_, trivial⟩, HB.out.trans HB2.out⟩
    · intro k cs t z h1 h2 h3
      have hk := (Array.getElem?_eq_some_iff.1 h3).1
      have h2' : (Value.slice A0 np c0).ownBlock ≠ some k := by
        intro e
        refine h2 ?_
        unfold ownAt
        rw [HV.out.cell]
        exact e
      exact (Below.heap_setCell _ _ _ _ h1).trans ((HG.out.block k (by simp; omega) (fun e => h2' e.symm)).trans ((Below.heap_alloc _ _ _ hk).trans h3))
    · have e1 : ownAt W w.heap.size = (Value.slice A0 np c0).ownBlock := by unfold ownAt; rw [HV.out.cell]; rfl
      have e3 : ownAt (w1.setCell ⟨w.heap.size, 0, none⟩ (.slice A' (np + 1) c')) w.heap.size = (Value.slice A' (np + 1) c').ownBlock := by unfold ownAt; rw [HV2.out.cell]; rfl
      rcases HVB.out with h | h
      · left; rw [e1, ← h, ← e3]
      · right; exact ⟨_, e3.trans h, by simp⟩
    · have h1 : (pre ++ [x]).length = np + 1 := by have := HNP.out; simp at this ⊢; omega
      have h2 : (pre ++ [x]).map (·.1) = pre.map (·.1) ++ [x.1] := by simp
      rw [h1, h2]
      exact HR2.out
  case done =>
    rintro D ys W hD hys ⟨⟨v, hv, hrow, _⟩, hB⟩ hK
    have hc := hv.cell
    gi_wp2
    refine ⟨by simp, .inl ⟨_, _, rfl, run_takeDeferred hK, ?_⟩⟩
    refine ⟨_, results_tmp rfl _ _ _, v, rfl, ?_, hB.trans (belowK_b (w := w) (Nat.le_refl _) W D _ _ (by simp at hD; omega) hK rfl rfl)⟩
    have e : ys.length = L.length := by
      have := congrArg List.length hys
      simpa using this
    have := ownsRow_putObj hrow (.deferred none) hK rfl
    rw [hys, e] at this
    exact this

set_option maxHeartbeats 400000 in
theorem dk_collect (b mb Bn : Nat) (L : List (Nm × FB)) (lim : Int) (down : Bool) (w : World) (hA : DkAt w b mb L lim down) (hBn : w.cell? ⟨Bn, 0, none⟩ = some (.pointer (some ⟨b, 0, none⟩))) (hBl : Bn < w.heap.size) (hs : fSort L) (hl : L.length ≤ 1000000) :
    Calls Try.prog 36 #[.func (.func 47) #[] #[.pointer (some ⟨Bn, 0, none⟩)]] w fun e w' => ∃ v, e = .returned v ∧ w'.ownsRow w.heap.size 9 1 v L.length ((L.map (·.1)).map strV) ∧ Below w.heap.size w w' := by
  have KC := hide (dk_appendseq b mb Bn L lim down w hA hBn hBl hs hl)
  clear hA hBn hs
  go_enter Try.func36, Try.ntmps36
  go_wp2_with fail
  refine KC.out.mono ?_
  rintro e w' ⟨v, rfl, hrow, hB⟩
  obtain ⟨A, c, rfl, _⟩ := slice_form hrow
  have HR := hide hrow
  clear hrow
  go_wp2_with fail
  go_ret
  exact ⟨_, rfl, HR.out, hB⟩

set_option maxHeartbeats 400000 in
theorem dk_list_up (b mb : Nat) (L : List (Nm × FB)) (lim : Int) (w : World) (hA : DkAt w b mb L lim false) (hs : fSort L) (hl : L.length ≤ 1000000) :
    Calls Try.prog 22 #[.pointer (some ⟨b, 0, none⟩)] w fun e w' => ∃ v, e = .returned v ∧ w'.ownsRow w.heap.size 9 1 v L.length ((L.map (·.1)).map strV) ∧ Below w.heap.size w w' := by
  have c2 : w.cell? ⟨b, 2, none⟩ = some (.bool false) := hA.head.cell 2
  have hB1 : Below w.heap.size w (w.alloc (.cells #[.pointer (some ⟨b, 0, none⟩)] 26)) := (Below.refl _ w).alloc (Nat.le_refl _) _
  have KC := hide (dk_collect b mb w.heap.size L lim false (w.alloc (.cells #[.pointer (some ⟨b, 0, none⟩)] 26)) (hA.below (B := 0) hB1) ((Blk.new w _ _).cell 0) (by simp) hs hl)
  have KN := hide (dk_names b w)
  have HB1 := hide hB1
  clear hA hs hB1
  go_enter Try.func22, Try.ntmps22
  go_wp2_with fail
  refine KN.out.mono ?_
  rintro e w' ⟨rfl, rfl⟩
  go_wp2_with fail
  refine KC.out.mono ?_
  rintro e w' ⟨v, rfl, hrow, hB⟩
  obtain ⟨A, c, rfl, _⟩ := slice_form hrow
  have HR := hide hrow
  clear hrow
  go_wp2_with fail
  go_ret
  exact ⟨_, rfl, ownsRow_low HR.out (by simp), HB1.out.trans (hB.mono (by simp))⟩

set_option maxHeartbeats 400000 in
theorem dk_list_down (b mb : Nat) (L : List (Nm × FB)) (lim : Int) (w : World) (hA : DkAt w b mb L lim true) :
    Calls Try.prog 22 #[.pointer (some ⟨b, 0, none⟩)] w fun e w' => e = .returned (.slice none 0 0) ∧ w' = w := by
  have c2 : w.cell? ⟨b, 2, none⟩ = some (.bool true) := hA.head.cell 2
  clear hA
  go_enter Try.func22, Try.ntmps22
  go_wp2_with fail
  go_ret
  exact ⟨rfl, rfl⟩

theorem Dk.list_ {w : World} {S : Foot} {b : Nat} {d : DS} (h : Dk w S b d) (ok : DOk d) (hl : d.l.length ≤ 1000000) :
    Calls Try.prog 22 #[.pointer (some ⟨b, 0, none⟩)] w fun e w' => ∃ v, e = .returned v ∧ w'.ownsRow w.heap.size 9 1 v (dList d).length ((dList d).map strV) ∧ Below w.heap.size w w' := by
  obtain ⟨mb, L, hA, hv, hS, hlt⟩ := h
  cases hd : d.down with
  | true =>
    rw [hd] at hA
    have e : dList d = [] := by unfold dList; rw [hd]; rfl
    rw [e]
    refine (dk_list_down b mb L d.lim w hA).mono ?_
    rintro e w' ⟨rfl, rfl⟩
    exact ⟨_, rfl, World.ownsRow_nil _ _ _ _, Below.refl _ _⟩
  | false =>
    rw [hd] at hA
    have e1 : L.map (·.1) = dList d := by
      unfold dList; rw [hd, ← hv]; unfold dkView; rw [List.map_map]; rfl
    have e2 : L.length = (dList d).length := by rw [← e1]; simp
    have hk := dk_list_up b mb L d.lim w hA (fSort_view.1 (by rw [hv]; exact ok.sort)) (by rw [← hv] at hl; simpa [dkView] using hl)
    rw [e1, e2] at hk
    exact hk
end Go.Proofs.Ytbkenickmiapdaa
