/- DERIVED. A region that draws its order, in the round of a loop over an iterator: reads ahead of one last part. (The library's law for a frame of its own, Derived/StillTail.lean, led into a round.) -/
import Derived.Test.YtbkenickmiapdaaDki
import Derived.StillTailTactics
namespace Go.Proofs.Ytbkenickmiapdaa
set_option linter.unusedVariables false
set_option linter.unusedSimpArgs false
open Go.RowKit Go.Shelf

section
variable {l n : Nat} {P : Program} {w : World} {ops : Array Oper} {md : Region.Mode}
theorem still_in {o : Oper} {a : Act} {K : Act → Prop} {K' : Act → World → Prop} {Q : Exit → Act → World → Prop} (hd : ∀ c, o.op ≠ .defer c) (h : ∀ a, K a → K' a w) (hh : o.still P a w K) : o.wpIn (Fence.wide.inRound l) n P a w K' Q := by
  refine ⟨fun _ _ => trivial, ?_⟩
  rw [Oper.semAt_eq _ _ _ hd]
  unfold Oper.still at hh
  generalize (execOp a.eval o).run P w = r at *
  cases r with
  | ok nx w' =>
    cases nx <;> simp only [Oper.stillUpon] at hh
    case value v => obtain ⟨rfl, h2⟩ := hh; exact h _ h2
    case skip => obtain ⟨rfl, h2⟩ := hh; exact h _ h2
    case enter f args =>
      obtain ⟨rfl, v, hc, h2⟩ := hh
      refine ⟨fun h => by simp [Fence.wide] at h, CallsIn.inRound l (callsIn_wide.2 (hc.mono ?_))⟩
      rintro e w' ⟨rfl, rfl⟩
      exact h _ h2
  | halt x w' => simp only [Oper.stillUpon] at hh

theorem opIn_of_st (hd : ∀ (j : Nat) (o : Oper), ops[j]? = some o → ∀ c, o.op ≠ .defer c) {i : Nat} {a : Act} {K : Act → Prop} {K' : Act → World → Prop} {Q : Exit → Act → World → Prop} (h : ∀ a, K a → K' a w) (hh : stOp P ops w i K a) : wpOpIn (Fence.wide.inRound l) n P ops Q i K' a w := by
  unfold stOp at hh
  unfold wpOpIn
  cases ho : ops[i]? with
  | none => simp only [ho] at hh ⊢; exact h _ hh
  | some o =>
    simp only [ho] at hh ⊢
    by_cases hw : Region.wanted o (yielded ops a.tmps) = true
    · simp only [hw, if_true] at hh ⊢; exact still_in (hd i o ho) h hh
    · simp only [hw] at hh ⊢; exact ⟨fun _ _ => trivial, h _ hh⟩

theorem anyIn_of_head (hd : ∀ (j : Nat) (o : Oper), ops[j]? = some o → ∀ c, o.op ≠ .defer c) {m g : Nat} {L : Array Bool → Act → Prop} {Q : Exit → Act → World → Prop} (hL : ∀ listed a, L listed a → wpAnyIn (Fence.wide.inRound l) n P md ops Q g listed a w) :
    ∀ (f : Nat) (listed : Array Bool) (a : Act), wpAnyL P md ops w m L f listed a → wpAnyIn (Fence.wide.inRound l) n P md ops Q (f + g) listed a w
  | 0, listed, a, h => by rw [Nat.zero_add]; exact hL _ _ h
  | f + 1, listed, a, h => by
    rw [show f + 1 + g = (f + g) + 1 by omega]
    exact ⟨fun h0 => absurd h0 h.1, fun i hi => opIn_of_st hd (fun a' h' => anyIn_of_head hd hL f _ a' h') (h.2 i hi).2⟩

theorem anyIn_of_seq {Q : Exit → Act → World → Prop} : ∀ (t : List Oper) (k : Nat) (listed : Array Bool) (a : Act) (w : World), (∀ j, t[j]? = ops[k + j]?) →
    Region.seqB md ops t.length k listed = true → wpListIn (Fence.wide.inRound l) n P ops Q t a w → wpAnyIn (Fence.wide.inRound l) n P md ops Q t.length listed a w
  | [], _, _, _, _, _, hB, h => ⟨by simpa [Region.seqB] using hB, h⟩
  | o :: t, k, listed, a, w, hl, hB, h => by
    have h0 : ops[k]? = some o := by simpa using (hl 0).symm
    simp only [List.length_cons, Region.seqB, Bool.and_eq_true, decide_eq_true_eq] at hB
    refine ⟨fun h1 => (by rw [hB.1] at h1; cases h1), fun i hi => ?_⟩
    rw [hB.1] at hi
    obtain rfl : i = k := by simpa using hi
    have hw : wpOpIn (Fence.wide.inRound l) n P ops Q i (wpListIn (Fence.wide.inRound l) n P ops Q t) a w := by unfold wpOpIn; simp only [h0]; exact h
    exact wpOpIn_mono (fun a' w' h' => anyIn_of_seq t (i + 1) _ a' w' (fun j => by have := hl (j + 1); simpa [Nat.add_assoc, Nat.add_comm 1 j] using this) hB.2 h') hw

def noDeferB (ops : List Oper) : Bool := ops.all fun o => match o.op with | .defer _ => false | _ => true
theorem noDefer_spec {t : List Oper} (h : noDeferB t = true) : ∀ (j : Nat) (o : Oper), t.toArray[j]? = some o → ∀ c, o.op ≠ .defer c := by
  intro j o ho c e
  have hm : o ∈ t := by
    have := Array.mem_of_getElem? ho
    simpa using this
  have := List.all_eq_true.1 h o hm
  rw [e] at this
  cases this

theorem region_round_tail {id : Nat} {Q : Exit → Act → World → Prop} {a : Act} {t : List Oper} (m : Nat) (hm : P.follows .mixedOrders = true) (hB : (Region.lexTailB .any t.toArray m && noDeferB t) = true)
    (h : wpStill P t.toArray w.drew (fun a' => wpListIn (Fence.wide.inRound l) n P t.toArray Q (t.drop m) a' w.drew) (t.take m) a) : (Code.region id t.toArray true).wpIn (Fence.wide.inRound l) n P Q a w := by
  simp only [Region.lexTailB, Bool.and_eq_true, decide_eq_true_eq] at hB
  obtain ⟨⟨⟨⟨⟨hsel, hn⟩, hs⟩, hc⟩, hlex⟩, hdf⟩ := hB
  have hn' : m < t.length := by simpa using hn
  have htl : (t.take m).length = m := by simp; omega
  have hdl : (t.drop m).length = t.toArray.size - m := by simp
  have inv0 : HeadInv .any t.toArray m (Array.replicate t.toArray.size false) :=
    ⟨by simp, fun j oj _ hl => (by rw [getD_replicate_false] at hl; cases hl), fun i _ hi => getD_in (by simpa using hi) (getD_replicate_false _ _)⟩
  have H := wpAnyL_lex (md := .any) (g := t.toArray.size - m) hsel hs hc hn (t.take m) 0 _ a (fun j hj => by
    have hj' : j < m := by rw [htl] at hj; exact hj
    simp [hj']) (by simpa using htl) inv0 (by rw [htl]; exact hlex) h
  refine wpIn_region_any hm ?_
  have := anyIn_of_head (l := l) (n := n) (Q := Q) (g := t.toArray.size - m) (noDefer_spec hdf) (fun listed a' hL => by
    have := anyIn_of_seq (l := l) (n := n) (md := .any) (Q := Q) (t.drop m) m listed a' w.drew (fun j => by simp [List.getElem?_drop]) (by rw [hdl]; exact hL.1) hL.2
    rwa [hdl] at this) _ _ _ H
  rw [htl, show m + (t.toArray.size - m) = t.toArray.size by omega] at this
  exact this
end
end Go.Proofs.Ytbkenickmiapdaa
