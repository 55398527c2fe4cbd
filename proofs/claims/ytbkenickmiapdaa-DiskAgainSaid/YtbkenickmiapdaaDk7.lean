/- DERIVED. Package disk: Rename over 'Dk'. -/
import Derived.Test.YtbkenickmiapdaaDk6
namespace Go.Proofs.Ytbkenickmiapdaa
set_option linter.unusedVariables false
set_option linter.unusedSimpArgs false
open Go.RowKit

theorem pair_of {α : Type} {R : Nm × α → Nm × α → Prop} {l : List (Nm × α)} (hs : fSort l) (h : ∀ p ∈ l, ∀ q ∈ l, p.1 ≠ q.1 → R p q) : l.Pairwise R :=
  hs.ne_.imp_of_mem fun hp hq hne => h _ hp _ hq hne

section
variable {w : World} {S : Foot} {b mb : Nat} {d : DS} {L : List (Nm × FB)} {lim : Int} {down : Bool}
theorem DkAt.two (h : DkAt w b mb L lim down) (hs : fSort L) : ∀ p ∈ L, ∀ q ∈ L, p.1 ≠ q.1 → p.2.blk ≠ q.2.blk ∧ ∀ r, p.2.row = some r → q.2.row ≠ some r := by
  intro p hp q hq hne
  have := h.file_ne (n := p.1) (x := p.2) hs (fGet_of_mem hs hp) q hq hne.symm
  exact ⟨this.1.symm, this.2.1⟩

theorem Dk.rename_ (h : Dk w S b d) (ok : DOk d) (n m : Nm) (hn : n.length ≤ maxLen) (hm : m.length ≤ maxLen) (hl : d.l.length < maxLen) :
    Calls Try.prog 21 #[.pointer (some ⟨b, 0, none⟩), .string ⟨n.toArray⟩, .string ⟨m.toArray⟩] w (DkPost w S b (.int .i64 (dMay d true n m)) (dRename d n m)) := by
  obtain ⟨mb, L, hA, hv, hS, hlt⟩ := h
  have hE := dMay_of2 hv true n m
  by_cases h0 : dMay d true n m = 0
  · by_cases hnm : n = m
    · have e : dRename d n m = d := by unfold dRename; rw [if_pos h0, if_pos hnm]
      rw [e]
      exact (dk_rename_no b mb L d.lim d.down n m w hA hn hm _ hE (.inr hnm)).mono fun e w' ⟨he, hB⟩ => DkPost.same ⟨mb, L, hA, hv, hS, hlt⟩ he hB
    · obtain ⟨hd, _, _, hf⟩ := dMay_zero h0
      obtain ⟨f, hf⟩ := hf rfl
      obtain ⟨x, hg, hxf⟩ := view_some hv hf
      have hs : fSort L := fSort_view.1 (by rw [hv]; exact ok.sort)
      have hLl : L.length < maxLen := by rw [← hv] at hl; simpa [dkView] using hl
      have e : dRename d n m = { d with l := fDel n (fPut m x.f d.l) } := by
        unfold dRename dOld; rw [if_pos h0, if_neg hnm, hf, hxf]; rfl
      rw [e, h0]
      refine (dk_rename_yes b mb L d.lim d.down n m x w hA hn hm hLl (hE.trans h0) hg hnm).mono fun e w' ⟨he, k, w2, ht1, ht2, hmap⟩ => ?_
      have hA1 := alloc_foot hA (.cells #[.string ⟨n.toArray⟩, .string ⟨m.toArray⟩] 9) k
      have hB1 := below_alloc_drewN w (.cells #[.string ⟨n.toArray⟩, .string ⟨m.toArray⟩] 9) k
      generalize (w.alloc (.cells #[.string ⟨n.toArray⟩, .string ⟨m.toArray⟩] 9)).drewN k = w1 at *
      have hmb : S mb := hS _ (.inr (.inl rfl))
      have hm' := ownsMap_tight hmap
      simp only [List.length_map] at hm'
      have hmem : ∀ p ∈ fDel n (fPut m x L), p = (m, x) ∨ (p ∈ L ∧ p.1 ≠ m ∧ p.1 ≠ n) := by
        intro p hp
        obtain ⟨hp, hpn⟩ := mem_fDel.1 hp
        rcases mem_fPut.1 hp with h | ⟨h1, h2⟩
        · exact .inl h
        · exact .inr ⟨h1, h2, hpn⟩
      have hap : ∀ p ∈ fDel n (fPut m x L), ∀ q ∈ fDel n (fPut m x L), p.1 ≠ q.1 → p.2.blk ≠ q.2.blk ∧ ∀ r, p.2.row = some r → q.2.row ≠ some r := by
        intro p hp q hq hne
        rcases hmem p hp with rfl | ⟨hp1, hp2, hp3⟩ <;> rcases hmem q hq with rfl | ⟨hq1, hq2, hq3⟩
        · exact absurd rfl hne
        · exact hA1.two hs (n, x) (fGet_mem hg) q hq1 hq3.symm
        · exact hA1.two hs p hp1 (n, x) (fGet_mem hg) hp3
        · exact hA1.two hs p hp1 q hq1 hne
      have hs' : fSort (fDel n (fPut m x L)) := hs.put.del
      have hkeep : ∀ k, k < w1.heap.size → k ≠ mb → w'.heap[k]? = w1.heap[k]? := fun k hk hne =>
        (ht2.grown.block k (by rw [turned_size ht1]; exact hk) fun e => hne (by injection e)).trans (ht1.grown.block k hk fun e => hne (by injection e))
      refine ⟨he, S, ⟨mb, fDel n (fPut m x L), ?_, by rw [view_del, view_put, hv], ?_, ?_⟩, (Mod.of_below hB1 S).trans ((turned_mod ht1 hmb).trans (turned_mod ht2 hmb) fun i hi => .inl hi) (fun i hi => .inl hi), fun k hk => .inl hk⟩
      · refine hA1.reMap hm' (fun p hp => .inl ?_) (pair_of hs' fun p hp q hq hne => (hap p hp q hq hne).1) (pair_of hs' fun p hp q hq hne => (hap p hp q hq hne).2) hkeep
        rcases hmem p hp with rfl | ⟨hp1, _⟩
        · exact ⟨_, fGet_mem hg, rfl⟩
        · exact ⟨p, hp1, rfl⟩
      · rintro k (rfl | rfl | ⟨p, hp, hpk⟩)
        · exact hS _ (.inl rfl)
        · exact hmb
        · rcases hmem p hp with rfl | ⟨hp1, _⟩
          · exact hS k (.inr (.inr ⟨_, fGet_mem hg, hpk⟩))
          · exact hS k (.inr (.inr ⟨p, hp1, hpk⟩))
      · intro k hk
        have := hlt k hk
        have := hB1.size
        rw [turned_size ht2, turned_size ht1]; omega
  · have e : dRename d n m = d := by unfold dRename; rw [if_neg h0]
    rw [e]
    exact (dk_rename_no b mb L d.lim d.down n m w hA hn hm _ hE (.inl (by simpa using h0))).mono fun e w' ⟨he, hB⟩ => DkPost.same ⟨mb, L, hA, hv, hS, hlt⟩ he hB
end
end Go.Proofs.Ytbkenickmiapdaa
