/- DERIVED. The contracts of package disk for a caller that made the disk: nothing that was there before the caller has turned; nor have the blocks of T. -/
import Derived.Test.YtbkenickmiapdaaDkl
import Derived.Test.YtbkenickmiapdaaDmk
namespace Go.Proofs.Ytbkenickmiapdaa
set_option linter.unusedVariables false
set_option linter.unusedSimpArgs false
open Go.RowKit

/-- The disk at b, made since w0; its blocks are none of T. -/
def DkB (w0 w : World) (T : Foot) (b : Nat) (d : DS) : Prop :=
  ∃ S : Foot, Dk w S b d ∧ (∀ k, S k → w0.heap.size ≤ k ∧ ¬ T k) ∧ Below w0.heap.size w0 w

/-- The blocks of T have stayed. -/
structure Stay (T : Foot) (w w' : World) : Prop where
  block : ∀ k, T k → w'.heap[k]? = w.heap[k]?
  size : w.heap.size ≤ w'.heap.size
theorem Stay.of_below {T : Foot} {w w' : World} (h : Below w.heap.size w w') (hT : ∀ k, T k → k < w.heap.size) : Stay T w w' := ⟨fun k hk => h.block k (hT k hk), h.size⟩
theorem Stay.refl (T : Foot) (w : World) : Stay T w w := ⟨fun _ _ => rfl, Nat.le_refl _⟩
theorem Stay.trans {T : Foot} {a b c : World} (h : Stay T a b) (k : Stay T b c) : Stay T a c := ⟨fun i hi => (k.block i hi).trans (h.block i hi), Nat.le_trans h.size k.size⟩
theorem Stay.mono {T T' : Foot} {a b : World} (h : Stay T a b) (hT : ∀ k, T' k → T k) : Stay T' a b := ⟨fun i hi => h.block i (hT i hi), h.size⟩

def DkBPost (w0 w : World) (T : Foot) (b : Nat) (r : Value) (d : DS) (e : Ending) (w' : World) : Prop :=
  e = .returned r ∧ DkB w0 w' T b d ∧ Stay T w w'

theorem DkPost.toB {w0 w w' : World} {S T : Foot} {b : Nat} {r : Value} {d : DS} {e : Ending}
    (h : DkPost w S b r d e w') (hS : ∀ k, S k → w0.heap.size ≤ k ∧ ¬ T k) (hB : Below w0.heap.size w0 w) (hT : ∀ k, T k → k < w.heap.size) : DkBPost w0 w T b r d e w' := by
  obtain ⟨he, S', h1, h2, h3⟩ := h
  refine ⟨he, ⟨S', h1, fun k hk => ?_, hB.trans (h2.below (fun k hk => (hS k hk).1) hB.size)⟩, ⟨fun k hk => h2.block k (hT k hk) fun hs => (hS k hs).2 hk, h2.size⟩⟩
  rcases h3 k hk with hk | hk
  · exact hS k hk
  · have := hB.size
    exact ⟨by omega, fun ht => by have := hT k ht; omega⟩

section
variable {w0 w w' : World} {T : Foot} {b : Nat} {d : DS} {N U : Nat}
theorem DkB.lt (h : DkB w0 w T b d) : b < w.heap.size ∧ w0.heap.size ≤ b ∧ ¬ T b := by
  obtain ⟨S, ⟨mb, L, hA, _, hS, hlt⟩, hS2, _⟩ := h
  have hb := hS b (.inl rfl)
  exact ⟨hlt b hb, hS2 b hb⟩
theorem DkB.keep (h : DkB w0 w T b d) (hk : ∀ k, w0.heap.size ≤ k → ¬ T k → k < w.heap.size → w'.heap[k]? = w.heap[k]?) (hB : Below w0.heap.size w0 w → Below w0.heap.size w0 w') : DkB w0 w' T b d := by
  obtain ⟨S, h, hS, hb⟩ := h
  refine ⟨S, h.keep fun k hs => hk k (hS k hs).1 (hS k hs).2 ?_, hS, hB hb⟩
  obtain ⟨_, _, _, _, _, hlt⟩ := h
  exact hlt k hs
theorem DkB.below (h : DkB w0 w T b d) : Below w0.heap.size w0 w := by
  obtain ⟨S, _, _, hb⟩ := h
  exact hb
theorem DkB.more (h : DkB w0 w T b d) (hB : Below w.heap.size w w') : DkB w0 w' T b d :=
  h.keep (fun k _ _ hk => hB.block k hk) fun h => h.trans (hB.mono h.size)
theorem DkB.drewN (h : DkB w0 w T b d) (n : Nat) : DkB w0 (w.drewN n) T b d :=
  h.keep (fun _ _ _ _ => rfl) fun h => ⟨h.os, h.tape, h.output, h.size, h.block⟩
theorem DkB.foot (h : DkB w0 w T b d) {T' : Foot} (hT : ∀ k, T' k → T k ∨ k < w0.heap.size ∨ w.heap.size ≤ k) : DkB w0 w T' b d := by
  obtain ⟨S, h, hS, hb⟩ := h
  obtain ⟨mb, L, hA, hv, hf, hlt⟩ := h
  refine ⟨S, ⟨mb, L, hA, hv, hf, hlt⟩, fun k hk => ⟨(hS k hk).1, fun ht => ?_⟩, hb⟩
  rcases hT k ht with h | h | h
  · exact (hS k hk).2 h
  · have := (hS k hk).1; omega
  · have := hlt k hk; omega

theorem dkb_new (w0 w : World) (T : Foot) (lim : Int) (hT : ∀ k, T k → k < w.heap.size) (hB : Below w0.heap.size w0 w) :
    Calls Try.prog 14 #[.int .i64 lim] w fun e w' => ∃ b, e = .returned (.pointer (some ⟨b, 0, none⟩)) ∧ DkB w0 w' T b ⟨if lim < 0 then 0 else lim, [], false⟩ ∧ Stay T w w' := by
  refine (dk_new_ lim w).mono ?_
  rintro e w' ⟨b, he, hd, hb⟩
  have := hB.size
  exact ⟨b, he, ⟨_, hd, fun k hk => ⟨by omega, fun ht => by have := hT k ht; omega⟩, hB.trans (hb.mono hB.size)⟩, Stay.of_below hb hT⟩

theorem DkB.append_ (h : DkB w0 w T b d) (hT : ∀ k, T k → k < w.heap.size) (fit : DFit d N U) (n : Nm) (hn : n.length ≤ maxLen) (A : Option Addr) (c : Nat) (x : List UInt8) (hr : Reads w w.heap.size 1 A x.length (x.map u8V)) (hN : N < 1000000) (hU : U + x.length ≤ 140737488355328) :
    Calls Try.prog 15 #[.pointer (some ⟨b, 0, none⟩), .string ⟨n.toArray⟩, .slice A x.length c] w (DkBPost w0 w T b (.int .i64 (dAppendE d n x)) (dAppend d n x)) := by
  obtain ⟨S, h, hS, hB⟩ := h
  have h1 := fit.files
  have h2 := fit.bytes
  exact (h.append_ fit.ok n hn A c x hr (by simp only [maxLen]; omega) fit.lim (by omega)).mono fun e w' hp => hp.toB hS hB hT
theorem DkB.sync_ (h : DkB w0 w T b d) (hT : ∀ k, T k → k < w.heap.size) (fit : DFit d N U) (n : Nm) (hn : n.length ≤ maxLen) :
    Calls Try.prog 16 #[.pointer (some ⟨b, 0, none⟩), .string ⟨n.toArray⟩] w (DkBPost w0 w T b (.int .i64 (dMay d true n n)) (dSync d n)) := by
  obtain ⟨S, h, hS, hB⟩ := h
  exact (h.sync_ fit.ok n hn).mono fun e w' hp => hp.toB hS hB hT
theorem DkB.rename_ (h : DkB w0 w T b d) (hT : ∀ k, T k → k < w.heap.size) (fit : DFit d N U) (n m : Nm) (hn : n.length ≤ maxLen) (hm : m.length ≤ maxLen) (hN : N < 1000000) :
    Calls Try.prog 21 #[.pointer (some ⟨b, 0, none⟩), .string ⟨n.toArray⟩, .string ⟨m.toArray⟩] w (DkBPost w0 w T b (.int .i64 (dMay d true n m)) (dRename d n m)) := by
  obtain ⟨S, h, hS, hB⟩ := h
  have h1 := fit.files
  exact (h.rename_ fit.ok n m hn hm (by simp only [maxLen]; omega)).mono fun e w' hp => hp.toB hS hB hT
theorem DkB.delete_ (h : DkB w0 w T b d) (hT : ∀ k, T k → k < w.heap.size) (fit : DFit d N U) (n : Nm) (hn : n.length ≤ maxLen) :
    Calls Try.prog 28 #[.pointer (some ⟨b, 0, none⟩), .string ⟨n.toArray⟩] w (DkBPost w0 w T b (.int .i64 (dMay d true n n)) (dDelete d n)) := by
  obtain ⟨S, h, hS, hB⟩ := h
  exact (h.delete_ fit.ok n hn).mono fun e w' hp => hp.toB hS hB hT
theorem DkB.start_ (h : DkB w0 w T b d) (hT : ∀ k, T k → k < w.heap.size) :
    Calls Try.prog 18 #[.pointer (some ⟨b, 0, none⟩)] w (DkBPost w0 w T b (.tuple #[]) { d with down := false }) := by
  obtain ⟨S, h, hS, hB⟩ := h
  exact h.start_.mono fun e w' hp => hp.toB hS hB hT
theorem DkB.down_ (h : DkB w0 w T b d) : Calls Try.prog 29 #[.pointer (some ⟨b, 0, none⟩)] w fun e w' => e = .returned (.bool d.down) ∧ w' = w := by
  obtain ⟨S, h, hS, hB⟩ := h
  exact h.down_
theorem DkB.crash_ (h : DkB w0 w T b d) (hT : ∀ k, T k → k < w.heap.size) (fit : DFit d N U) (ks : List Int) (A : Option Addr) (c : Nat) (hks : Reads w w.heap.size 1 A ks.length (ks.map intV)) (hkl : ks.length ≤ maxLen) (hkS : ∀ ad, A = some ad → (ad.block < w0.heap.size ∨ T ad.block) ∧ ad = ⟨ad.block, ad.off, none⟩)
    (hN : N ≤ 1000000) (hU : U ≤ 140737488355328) : Calls Try.prog 17 #[.pointer (some ⟨b, 0, none⟩), .slice A ks.length c] w (DkBPost w0 w T b (.tuple #[]) (dCrash d ks)) := by
  obtain ⟨S, h, hS, hB⟩ := h
  have h1 := fit.files
  have h2 := fit.bytes
  refine (h.crash_ fit.ok ks A c hks hkl (fun ad e _ => ⟨fun hs => ?_, (hkS ad e).2⟩) (by omega) (by omega)).mono fun e w' hp => hp.toB hS hB hT
  rcases (hkS ad e).1 with h | h
  · have := (hS _ hs).1; omega
  · exact (hS _ hs).2 h
theorem DkB.used_ (h : DkB w0 w T b d) (hT : ∀ k, T k → k < w.heap.size) (fit : DFit d N U) (hU : U ≤ 140737488355328) :
    Calls Try.prog 20 #[.pointer (some ⟨b, 0, none⟩)] w (DkBPost w0 w T b (.int .i64 (dUsed d.l)) d) := by
  have h' := h
  obtain ⟨S, h, hS, hB⟩ := h
  have h2 := fit.bytes
  exact (h.used_ fit.ok (by omega)).mono fun e w' ⟨he, hb⟩ => ⟨he, h'.more hb, Stay.of_below hb hT⟩
/-- Behind a call that hands back a new row. -/
def DkBRow (w0 w : World) (T : Foot) (b : Nat) (r : Value → Value) (d : DS) (t : TypeId) (xs : List Value) (e : Ending) (w' : World) : Prop :=
  ∃ v, e = .returned (r v) ∧ w'.ownsRow w.heap.size t 1 v xs.length xs ∧ DkB w0 w' T b d ∧ Stay T w w' ∧ Below w.heap.size w w'
theorem DkB.read_ (h : DkB w0 w T b d) (hT : ∀ k, T k → k < w.heap.size) (fit : DFit d N U) (n : Nm) (hn : n.length ≤ maxLen) (hU : U ≤ 140737488355328) :
    Calls Try.prog 19 #[.pointer (some ⟨b, 0, none⟩), .string ⟨n.toArray⟩] w (DkBRow w0 w T b (fun v => .tuple #[v, .int .i64 (dMay d true n n)]) d 5 ((dReadB d n).map u8V)) := by
  have h' := h
  obtain ⟨S, h, hS, hB⟩ := h
  have h2 := fit.bytes
  refine (h.read_ fit.ok n hn (by omega)).mono ?_
  rintro e w' ⟨v, he, hrow, hb⟩
  exact ⟨v, he, by simpa using hrow, h'.more hb, Stay.of_below hb hT, hb⟩
theorem DkB.list_ (h : DkB w0 w T b d) (hT : ∀ k, T k → k < w.heap.size) (fit : DFit d N U) (hN : N ≤ 1000000) :
    Calls Try.prog 22 #[.pointer (some ⟨b, 0, none⟩)] w (DkBRow w0 w T b (fun v => v) d 9 ((dList d).map strV)) := by
  have h' := h
  obtain ⟨S, h, hS, hB⟩ := h
  have h1 := fit.files
  refine (h.list_ fit.ok (by omega)).mono ?_
  rintro e w' ⟨v, he, hrow, hb⟩
  exact ⟨v, he, by simpa using hrow, h'.more hb, Stay.of_below hb hT, hb⟩
end
end Go.Proofs.Ytbkenickmiapdaa
