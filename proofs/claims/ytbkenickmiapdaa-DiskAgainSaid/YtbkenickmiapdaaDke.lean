/- DERIVED. The contracts of package disk, where the disk is one of the caller's objects. -/
import Derived.Test.YtbkenickmiapdaaEnv
import Derived.Test.YtbkenickmiapdaaBys
import Derived.Deep.DeepCutAuto
import Derived.Deep.CutBlock
import Derived.IntWalk
namespace Go.Proofs.Ytbkenickmiapdaa
set_option linter.unusedVariables false
set_option linter.unusedSimpArgs false
open Go.RowKit

/-- A disk, and how much it may have. -/
def dkO (b : Nat) (d : DS) (N U : Nat) : Ob where
  is w S := Dk w S b d ∧ DFit d N U
  keep h hk := ⟨h.1.keep hk, h.2⟩
  lt h k hk := by
    obtain ⟨⟨mb, L, _, _, _, hlt⟩, _⟩ := h
    exact hlt k hk

section
variable {w0 w w' : World} {S : Foot} {R : List Ob} {b N U : Nat} {d : DS}
theorem DkPost.toO {r : Value} {e : Ending} (h : DkPost w S b r d e w') (f : DFit d N U) : e = .returned r ∧ Post w S [dkO b d N U] w' := by
  obtain ⟨he, S', h1, h2, h3⟩ := h
  exact ⟨he, S', Has.one ⟨h1, f⟩, h2, h3⟩
theorem Env.dk_fit (E : Env w0 w (dkO b d N U :: R)) : DFit d N U := by
  obtain ⟨S, h, _⟩ := E.get
  exact h.2
theorem Env.dk_mono {N' U' : Nat} (E : Env w0 w (dkO b d N U :: R)) (hN : N ≤ N') (hU : U ≤ U') : Env w0 w (dkO b d N' U' :: R) := by
  obtain ⟨S, ⟨A, B, hA, hB⟩, h⟩ := E
  exact ⟨S, ⟨A, B, ⟨hA.1, hA.2.mono hN hU⟩, hB⟩, h⟩

theorem Env.dk_new (E : Env w0 w R) (lim : Int) (hl : lim ≤ 9223372036854775807) :
    Calls Try.prog 14 #[.int .i64 lim] w fun e w' => ∃ b, e = .returned (.pointer (some ⟨b, 0, none⟩)) ∧ Env w0 w' (dkO b ⟨if lim < 0 then 0 else lim, [], false⟩ 0 0 :: R) :=
  (dk_new_ lim w).mono fun e w' ⟨b, he, hd, hb⟩ => ⟨b, he, Env.new (L := [dkO b _ 0 0]) E hb (Has.one ⟨hd, DFit.new lim hl⟩) fun k hk => hk.1⟩
theorem Env.dk_append (E : Env w0 w (dkO b d N U :: R)) (n : Nm) (hn : n.length ≤ maxLen) (A : Option Addr) (c : Nat) (x : List UInt8) (hr : Reads w w.heap.size 1 A x.length (x.map u8V)) (hN : N < 1000000) (hU : U + x.length ≤ 140737488355328) :
    Calls Try.prog 15 #[.pointer (some ⟨b, 0, none⟩), .string ⟨n.toArray⟩, .slice A x.length c] w fun e w' => e = .returned (.int .i64 (dAppendE d n x)) ∧ Env w0 w' (dkO b (dAppend d n x) (N + 1) (U + x.length) :: R) :=
  E.call1 fun S h _ => (h.1.append_ h.2.ok n hn A c x hr (by have := h.2.files; simp only [maxLen]; omega) h.2.lim (by have := h.2.bytes; omega)).mono fun e w' hp => hp.toO (h.2.append n x)
theorem Env.dk_sync (E : Env w0 w (dkO b d N U :: R)) (n : Nm) (hn : n.length ≤ maxLen) :
    Calls Try.prog 16 #[.pointer (some ⟨b, 0, none⟩), .string ⟨n.toArray⟩] w fun e w' => e = .returned (.int .i64 (dMay d true n n)) ∧ Env w0 w' (dkO b (dSync d n) N U :: R) :=
  E.call1 fun S h _ => (h.1.sync_ h.2.ok n hn).mono fun e w' hp => hp.toO (h.2.sync n)
theorem Env.dk_rename (E : Env w0 w (dkO b d N U :: R)) (n m : Nm) (hn : n.length ≤ maxLen) (hm : m.length ≤ maxLen) (hN : N < 1000000) :
    Calls Try.prog 21 #[.pointer (some ⟨b, 0, none⟩), .string ⟨n.toArray⟩, .string ⟨m.toArray⟩] w fun e w' => e = .returned (.int .i64 (dMay d true n m)) ∧ Env w0 w' (dkO b (dRename d n m) (N + 1) U :: R) :=
  E.call1 fun S h _ => (h.1.rename_ h.2.ok n m hn hm (by have := h.2.files; simp only [maxLen]; omega)).mono fun e w' hp => hp.toO (h.2.rename n m)
theorem Env.dk_delete (E : Env w0 w (dkO b d N U :: R)) (n : Nm) (hn : n.length ≤ maxLen) :
    Calls Try.prog 28 #[.pointer (some ⟨b, 0, none⟩), .string ⟨n.toArray⟩] w fun e w' => e = .returned (.int .i64 (dMay d true n n)) ∧ Env w0 w' (dkO b (dDelete d n) N U :: R) :=
  E.call1 fun S h _ => (h.1.delete_ h.2.ok n hn).mono fun e w' hp => hp.toO (h.2.delete n)
theorem Env.dk_start (E : Env w0 w (dkO b d N U :: R)) :
    Calls Try.prog 18 #[.pointer (some ⟨b, 0, none⟩)] w fun e w' => e = .returned (.tuple #[]) ∧ Env w0 w' (dkO b { d with down := false } N U :: R) :=
  E.call1 fun S h _ => h.1.start_.mono fun e w' hp => hp.toO h.2.start
theorem Env.dk_down (E : Env w0 w (dkO b d N U :: R)) : Calls Try.prog 29 #[.pointer (some ⟨b, 0, none⟩)] w fun e w' => e = .returned (.bool d.down) ∧ w' = w := by
  obtain ⟨S, h, _⟩ := E.get
  exact h.1.down_
theorem Env.dk_used (E : Env w0 w (dkO b d N U :: R)) (hU : U ≤ 140737488355328) :
    Calls Try.prog 20 #[.pointer (some ⟨b, 0, none⟩)] w fun e w' => e = .returned (.int .i64 (dUsed d.l)) ∧ Env w0 w' (dkO b d N U :: R) := by
  obtain ⟨S, h, _⟩ := E.get
  exact (h.1.used_ h.2.ok (by have := h.2.bytes; omega)).mono fun e w' ⟨he, hb⟩ => ⟨he, E.more hb⟩
theorem Env.dk_read (E : Env w0 w (dkO b d N U :: R)) (n : Nm) (hn : n.length ≤ maxLen) (hU : U ≤ 140737488355328) :
    Calls Try.prog 19 #[.pointer (some ⟨b, 0, none⟩), .string ⟨n.toArray⟩] w fun e w' => ∃ A c, e = .returned (.tuple #[.slice A (dReadB d n).length c, .int .i64 (dMay d true n n)]) ∧
      Env w0 w' (rowO 5 1 (.slice A (dReadB d n).length c) ((dReadB d n).map u8V) :: dkO b d N U :: R) := by
  obtain ⟨S, h, _⟩ := E.get
  refine (h.1.read_ h.2.ok n hn (by have := h.2.bytes; omega)).mono ?_
  rintro e w' ⟨v, he, hrow, hb⟩
  obtain ⟨A, c, rfl, -⟩ := slice_form hrow
  exact ⟨A, c, he, E.new_row hb hrow (Nat.le_refl _)⟩
theorem Env.dk_list (E : Env w0 w (dkO b d N U :: R)) (hN : N ≤ 1000000) :
    Calls Try.prog 22 #[.pointer (some ⟨b, 0, none⟩)] w fun e w' => ∃ A c, e = .returned (.slice A (dList d).length c) ∧
      Env w0 w' (rowO 9 1 (.slice A (dList d).length c) ((dList d).map strV) :: dkO b d N U :: R) := by
  obtain ⟨S, h, _⟩ := E.get
  refine (h.1.list_ h.2.ok (by have := h.2.files; omega)).mono ?_
  rintro e w' ⟨v, he, hrow, hb⟩
  obtain ⟨A, c, rfl, -⟩ := slice_form hrow
  exact ⟨A, c, he, E.new_row hb hrow (Nat.le_refl _)⟩
theorem Env.dk_crash (E : Env w0 w (dkO b d N U :: R)) (ks : List Int) (A : Option Addr) (c : Nat) (hks : Reads w0 w0.heap.size 1 A ks.length (ks.map intV)) (hkl : ks.length ≤ maxLen) 
    (hN : N ≤ 1000000) (hU : U ≤ 140737488355328) : Calls Try.prog 17 #[.pointer (some ⟨b, 0, none⟩), .slice A ks.length c] w fun e w' => e = .returned (.tuple #[]) ∧ Env w0 w' (dkO b (dCrash d ks) N U :: R) :=
  E.call1 fun S h hS => (h.1.crash_ h.2.ok ks A c ((hks.below E.below).more E.size) hkl (fun ad e h0 => by obtain ⟨ad', e', hb, hc⟩ := hks.2 h0; rw [e] at e'; injection e' with e'; subst e'; exact ⟨fun hs => by have := hS _ hs; omega, by have := hc 0 _ (List.getElem?_eq_getElem (by simpa using h0)); simp [Addr.add] at this; have := World.cell?_spot this; obtain ⟨g, o, s⟩ := ad; simpa using this⟩) (by have := h.2.files; omega) (by have := h.2.bytes; omega)).mono fun e w' hp => hp.toO (h.2.crash ks)
theorem Env.dk_crash_nil (E : Env w0 w (dkO b d N U :: R)) (c : Nat) (hN : N ≤ 1000000) (hU : U ≤ 140737488355328) :
    Calls Try.prog 17 #[.pointer (some ⟨b, 0, none⟩), .slice none 0 c] w fun e w' => e = .returned (.tuple #[]) ∧ Env w0 w' (dkO b (dCrash d []) N U :: R) :=
  E.dk_crash [] none c Reads.none_ (by simp) hN hU
theorem Env.dk_crash_lit {g c : Nat} {t : TypeId} {cs : Array Value} (E : Env w0 w (dkO b d N U :: cellsO g t cs :: R)) (ks : List Int) (hcs : cs.toList = ks.map intV) (hkl : ks.length ≤ maxLen) (hN : N ≤ 1000000) (hU : U ≤ 140737488355328) :
    Calls Try.prog 17 #[.pointer (some ⟨b, 0, none⟩), .slice (some ⟨g, 0, none⟩) ks.length c] w fun e w' => e = .returned (.tuple #[]) ∧ Env w0 w' (dkO b (dCrash d ks) N U :: cellsO g t cs :: R) := by
  have hB := E.swap.blk
  have hks : Reads w w.heap.size 1 (some ⟨g, 0, none⟩) ks.length (ks.map intV) := by
    refine ⟨by simp, fun _ => ⟨_, rfl, hB.lt, fun j u hu => ?_⟩⟩
    rw [addr_add, hB.cell, ← hu, ← hcs]
    simp
  refine (Env.lift (L := [dkO b d N U, cellsO g t cs]) (R := R) (X := Unit) (r := fun _ => .tuple #[]) (Q := fun _ => [dkO b (dCrash d ks) N U, cellsO g t cs]) (C := fun _ => True) E fun S h hS => ?_).mono fun e w' ⟨_, h1, _, h2⟩ => ⟨h1, h2⟩
  obtain ⟨A, B, hA, hC, hd, hS2⟩ := h
  have hg : B g := by
    obtain ⟨A', B', hA', _, _, hS'⟩ := hC
    exact (hS' g).2 (.inl ((hA'.2 g).2 rfl))
  refine (hA.1.crash_ hA.2.ok ks _ c hks hkl (fun ad e _ => by injection e with e; subst e; exact ⟨fun h => hd g h hg, rfl⟩) (by have := hA.2.files; omega) (by have := hA.2.bytes; omega)).mono fun e w' hp => ?_
  obtain ⟨he, hq⟩ := hp.toO (hA.2.crash ks)
  exact ⟨(), he, trivial, hq.frame hC hd hS2⟩
end

theorem Env.str {w0 w : World} {R : List Ob} {A : Option Addr} {c : Nat} {l : List UInt8} (E : Env w0 w (rowO 5 1 (.slice A l.length c) (l.map u8V) :: R)) :
    (convert 22 9 (.slice A l.length c)).run Try.prog w = .ok (.string ⟨l.toArray⟩) w := str_of w _ A c l (by have := E.reads (by simp); simpa using this)
/-- What is read of a block of the caller's. -/
theorem Env.reads_cells {w0 w : World} {R : List Ob} {g : Nat} {t : TypeId} {cs : Array Value} (E : Env w0 w (cellsO g t cs :: R)) (xs : List Value) (h : cs.toList = xs) : Reads w w.heap.size 1 (some ⟨g, 0, none⟩) xs.length xs := by
  refine ⟨by simp, fun _ => ⟨_, rfl, E.blk.lt, fun j u hu => ?_⟩⟩
  rw [addr_add, E.cell]
  subst h
  simpa using hu
/-- An argument's row, now. -/
theorem Env.arg {w0 w : World} {L : List Ob} {size n : Nat} {A : Option Addr} {xs : List Value} (E : Env w0 w L) (h : Reads w0 w0.heap.size size A n xs) : Reads w w.heap.size size A n xs := (h.below E.below).more E.size
end Go.Proofs.Ytbkenickmiapdaa
