/- DERIVED. The contracts of the document's disk, where it is one of the caller's objects. -/
import Derived.Test.YtbkenickmiapdaaRf5
namespace Go.Proofs.Ytbkenickmiapdaa
set_option linter.unusedVariables false
set_option linter.unusedSimpArgs false
open Go.RowKit

section
variable {w0 w w' : World} {S : Foot} {R : List Ob} {b N U n c : Nat} {A : Option Addr} {d d' : DS}
theorem RfPost.toO {r : Value} {e : Ending} (h : RfPost w b A c n r d' e w') (f : DFit d' N U) (hS : ∀ k, rfFoot b (.slice A n c) k → S k) : e = .returned r ∧ Post w S [rfO b d' N U] w' := by
  obtain ⟨he, A', c', h1, h2, h3⟩ := h
  refine ⟨he, rfFoot b (.slice A' d'.l.length c'), Has.one ⟨A', c', h1, f, fun _ => Iff.rfl⟩, h2.mono fun k _ hk => hS k (.inl hk), fun k hk => ?_⟩
  rcases hk with hk | hk
  · exact .inl (hS k (.inl hk))
  · exact (h3 k hk).imp (fun h => hS k (.inr h)) id
theorem DFit.small {N U : Nat} (f : DFit d N U) (hN : N ≤ 1000000) : d.l.length ≤ 1000000 := by have := f.files; omega
theorem Env.rf_fit (E : Env w0 w (rfO b d N U :: R)) : DFit d N U := by
  obtain ⟨S, ⟨A, c, h1, h2, h3⟩, _⟩ := E.get
  exact h2
theorem Env.rf_mono {N' U' : Nat} (E : Env w0 w (rfO b d N U :: R)) (hN : N ≤ N') (hU : U ≤ U') : Env w0 w (rfO b d N' U' :: R) := by
  obtain ⟨S, ⟨A, B, ⟨A1, c1, h1, h2, h3⟩, hB⟩, h⟩ := E
  exact ⟨S, ⟨A, B, ⟨A1, c1, h1, h2.mono hN hU, h3⟩, hB⟩, h⟩
theorem Env.rf_is (E : Env w0 w (rfO b d N U :: R)) : w.cell? ⟨b, 2, none⟩ = some (.bool d.down) := by
  obtain ⟨S, ⟨A, c, h1, h2, h3⟩, _⟩ := E.get
  exact h1.head.cell 2

theorem Env.rf_new (E : Env w0 w R) (lim : Int) (hl : lim ≤ 9223372036854775807) :
    Calls Try.prog 23 #[.int .i64 lim] w fun e w' => ∃ b, e = .returned (.pointer (some ⟨b, 0, none⟩)) ∧ Env w0 w' (rfO b ⟨if lim < 0 then 0 else lim, [], false⟩ 0 0 :: R) := by
  refine (Go.Proofs.Ytbkenickmiapdaa.rf_new lim w).mono ?_
  rintro e w' ⟨he, rfl⟩
  refine ⟨_, he, Env.new (L := [rfO _ _ 0 0]) (S := rfFoot w.heap.size (.slice none 0 0)) E ((Below.refl _ w).alloc (Nat.le_refl _) _) (Has.one ⟨none, 0, ⟨Blk.new _ _ _, World.ownsRow_nil _ _ _ _⟩, DFit.new lim hl, fun _ => Iff.rfl⟩) fun k hk => ?_⟩
  rcases hk with hk | hk
  · omega
  · cases hk
theorem Env.rf_append (E : Env w0 w (rfO b d N U :: R)) (n : Nm) (x : List UInt8) (hn : n.length ≤ maxLen) (hx : x.length ≤ 1000000) (hN : N < 1000000) (hU : U ≤ 140737488355328) :
    Calls Try.prog 24 #[.pointer (some ⟨b, 0, none⟩), .string ⟨n.toArray⟩, .string ⟨x.toArray⟩] w fun e w' => e = .returned (.int .i64 (dAppendE d n x)) ∧ Env w0 w' (rfO b (dAppend d n x) (N + 1) (U + x.length) :: R) :=
  E.call1 fun S ⟨A, c, h1, h2, h3⟩ _ => (Go.Proofs.Ytbkenickmiapdaa.rf_append n x hn hx h1 h2.ok (h2.small (by omega)) (by have := h2.bytes; omega) h2.lim).mono fun e w' hp => hp.toO (h2.append n x) fun k hk => (h3 k).2 hk
theorem Env.rf_sync (E : Env w0 w (rfO b d N U :: R)) (n : Nm) (hn : n.length ≤ maxLen) (hN : N ≤ 1000000) (hU : U ≤ 140737488355328) :
    Calls Try.prog 25 #[.pointer (some ⟨b, 0, none⟩), .string ⟨n.toArray⟩] w fun e w' => e = .returned (.int .i64 (dMay d true n n)) ∧ Env w0 w' (rfO b (dSync d n) N U :: R) :=
  E.call1 fun S ⟨A, c, h1, h2, h3⟩ _ => (Go.Proofs.Ytbkenickmiapdaa.rf_sync n hn h1 h2.ok (h2.small hN) (by have := h2.bytes; omega)).mono fun e w' hp => hp.toO (h2.sync n) fun k hk => (h3 k).2 hk
theorem Env.rf_rename (E : Env w0 w (rfO b d N U :: R)) (n m : Nm) (hn : n.length ≤ maxLen) (hm : m.length ≤ maxLen) (hN : N ≤ 1000000) :
    Calls Try.prog 41 #[.pointer (some ⟨b, 0, none⟩), .string ⟨n.toArray⟩, .string ⟨m.toArray⟩] w fun e w' => e = .returned (.int .i64 (dMay d true n m)) ∧ Env w0 w' (rfO b (dRename d n m) (N + 1) U :: R) :=
  E.call1 fun S ⟨A, c, h1, h2, h3⟩ _ => (Go.Proofs.Ytbkenickmiapdaa.rf_rename n m hn hm h1 h2.ok (h2.small hN)).mono fun e w' hp => hp.toO (h2.rename n m) fun k hk => (h3 k).2 hk
theorem Env.rf_delete (E : Env w0 w (rfO b d N U :: R)) (n : Nm) (hn : n.length ≤ maxLen) (hN : N ≤ 1000000) :
    Calls Try.prog 42 #[.pointer (some ⟨b, 0, none⟩), .string ⟨n.toArray⟩] w fun e w' => e = .returned (.int .i64 (dMay d true n n)) ∧ Env w0 w' (rfO b (dDelete d n) N U :: R) :=
  E.call1 fun S ⟨A, c, h1, h2, h3⟩ _ => (Go.Proofs.Ytbkenickmiapdaa.rf_delete n hn h1 h2.ok (h2.small hN)).mono fun e w' hp => hp.toO (h2.delete n) fun k hk => (h3 k).2 hk
theorem Env.rf_start (E : Env w0 w (rfO b d N U :: R)) :
    Calls Try.prog 32 #[.pointer (some ⟨b, 0, none⟩)] w fun e w' => e = .returned (.tuple #[]) ∧ Env w0 w' (rfO b { d with down := false } N U :: R) :=
  E.call1 fun S ⟨A, c, h1, h2, h3⟩ _ => (Go.Proofs.Ytbkenickmiapdaa.rf_start h1).mono fun e w' ⟨he, hw⟩ => by
    have hp : RfPost w b A c d.l.length (.tuple #[]) d e w := ⟨he, A, c, h1, Mod.refl _ _, fun k hk => .inl hk⟩
    have := hp.setDown false
    rw [← hw] at this
    exact this.toO h2.start fun k hk => (h3 k).2 hk
theorem Env.rf_crash (E : Env w0 w (rfO b d N U :: R)) (ks : List Int) (Ak : Option Addr) (ck : Nat) (hks : Reads w w.heap.size 1 Ak ks.length (ks.map intV)) (hkl : ks.length ≤ maxLen) (hkb : ∀ (j : Nat) (h : j < ks.length), -9223372036854775808 ≤ ks[j] ∧ ks[j] ≤ 9223372036854775807) (hsp : ∀ ad, Ak = some ad → 0 < ks.length → ad = ⟨ad.block, ad.off, none⟩)
    (hN : N ≤ 1000000) (hU : U ≤ 140737488355328) : Calls Try.prog 30 #[.pointer (some ⟨b, 0, none⟩), .slice Ak ks.length ck] w fun e w' => e = .returned (.tuple #[]) ∧ Env w0 w' (rfO b (dCrash d ks) N U :: R) :=
  E.call1 fun S ⟨A, c, h1, h2, h3⟩ _ => (Go.Proofs.Ytbkenickmiapdaa.rf_crash ks Ak ck hks hkl hkb hsp h1 h2.ok (h2.small hN) (by have := h2.bytes; omega)).mono fun e w' hp => hp.toO (h2.crash ks) fun k hk => (h3 k).2 hk
theorem Env.rf_read (E : Env w0 w (rfO b d N U :: R)) (n : Nm) (hn : n.length ≤ maxLen) (hN : N ≤ 1000000) :
    Calls Try.prog 43 #[.pointer (some ⟨b, 0, none⟩), .string ⟨n.toArray⟩] w fun e w' => e = .returned (.tuple #[.string ⟨(dReadB d n).toArray⟩, .int .i64 (dMay d true n n)]) ∧ Env w0 w' (rfO b d N U :: R) := by
  obtain ⟨S, ⟨A, c, h1, h2, h3⟩, _⟩ := E.get
  refine (Go.Proofs.Ytbkenickmiapdaa.rf_read n hn h1 (h2.small hN)).mono ?_
  rintro e w' ⟨he, m, rfl⟩
  exact ⟨he, E.drewN m⟩
theorem Env.rf_used (E : Env w0 w (rfO b d N U :: R)) (hN : N ≤ 1000000) (hU : U ≤ 140737488355328) :
    Calls Try.prog 38 #[.pointer (some ⟨b, 0, none⟩)] w fun e w' => e = .returned (.int .i64 (dUsed d.l)) ∧ w = w' := by
  obtain ⟨S, ⟨A, c, h1, h2, h3⟩, _⟩ := E.get
  exact Go.Proofs.Ytbkenickmiapdaa.rf_used h1 (h2.small hN) (by have := h2.bytes; omega)
theorem Env.rf_list (E : Env w0 w (rfO b d N U :: R)) (hN : N ≤ 1000000) :
    Calls Try.prog 44 #[.pointer (some ⟨b, 0, none⟩)] w fun e w' => ∃ A c, e = .returned (.slice A (dList d).length c) ∧ Env w0 w' (rowO 9 1 (.slice A (dList d).length c) ((dList d).map strV) :: rfO b d N U :: R) := by
  obtain ⟨S, ⟨A, c, h1, h2, h3⟩, _⟩ := E.get
  refine (Go.Proofs.Ytbkenickmiapdaa.rf_list h1 (h2.small hN)).mono ?_
  rintro e w' ⟨A', c', he, hE⟩
  exact ⟨A', c', he, E.new_row hE.below hE.row1 (Nat.le_refl _)⟩
theorem Env.rf_copy (E : Env w0 w (rfO b d N U :: R)) (hN : N ≤ 1000000) :
    Calls Try.prog 31 #[.pointer (some ⟨b, 0, none⟩)] w fun e w' => ∃ b', e = .returned (.pointer (some ⟨b', 0, none⟩)) ∧ Env w0 w' (rfO b' d N U :: rfO b d N U :: R) := by
  obtain ⟨S, ⟨A, c, h1, h2, h3⟩, _⟩ := E.get
  refine (Go.Proofs.Ytbkenickmiapdaa.rf_copy h1 (h2.small hN)).mono ?_
  rintro e w' ⟨v, w3, hE, he, rfl⟩
  obtain ⟨nn, hr⟩ := hE.row
  have hnn : nn = d.l.length := by have := hr.1; rw [filesC_len] at this; omega
  subst hnn
  obtain ⟨A', c', rfl, -⟩ := slice_form hr
  refine ⟨_, he, Env.new (L := [rfO _ _ N U]) (S := rfFoot w3.heap.size (.slice A' d.l.length c')) E (hE.below.alloc hE.below.size _) (Has.one ⟨A', c', ⟨Blk.new _ _ _, ?_⟩, h2, fun _ => Iff.rfl⟩) fun k hk => ?_⟩
  · exact ownsRow_low (hr.alloc _) (Nat.zero_le _)
  · rcases hk with hk | hk
    · have := hE.below.size; omega
    · exact (hr.lt k hk).1
end
end Go.Proofs.Ytbkenickmiapdaa
