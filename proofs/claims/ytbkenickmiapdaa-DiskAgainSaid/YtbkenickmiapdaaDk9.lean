/- DERIVED. Package disk: Append, Used, Start, Down, New over 'Dk'. -/
import Derived.Test.YtbkenickmiapdaaDk8
namespace Go.Proofs.Ytbkenickmiapdaa
set_option linter.unusedVariables false
set_option linter.unusedSimpArgs false
open Go.RowKit

theorem Mod.of_grown {w w' : World} {row : Option Nat} {S : Foot} (h : w.grownBy w' row) (hS : ∀ k, row = some k → S k) : Mod S w w' :=
  ⟨h.os, h.tape, h.output, h.size, fun k hk hn => h.block k hk fun e => hn (hS k e.symm)⟩
theorem used_view (L : List (Nm × FB)) : dUsed (dkView L) = fbUsed L := by
  unfold dUsed dkView fbUsed
  rw [List.map_map]
  rfl

section
variable {w : World} {S : Foot} {b mb : Nat} {d : DS} {L : List (Nm × FB)} {lim : Int} {down : Bool}
theorem DOk.short (ok : DOk d) : ∀ p ∈ d.l, p.1.length ≤ 64 := fun p hp => by
  have := ok.names p hp
  unfold nmBad at this
  simp at this
  omega
theorem view_names (hv : dkView L = d.l) (ok : DOk d) : ∀ p ∈ L, p.1.length ≤ maxLen := fun p hp => by
  have h : p.1.length ≤ 64 := ok.short (p.1, p.2.f) (by rw [← hv]; exact List.mem_map.2 ⟨p, hp, rfl⟩)
  simp only [maxLen]
  omega

theorem Dk.used_ (h : Dk w S b d) (ok : DOk d) (hu : dUsed d.l ≤ 140737488355328) :
    Calls Try.prog 20 #[.pointer (some ⟨b, 0, none⟩)] w fun e w' => e = .returned (.int .i64 (dUsed d.l)) ∧ Below w.heap.size w w' := by
  obtain ⟨mb, L, hA, hv, hS, hlt⟩ := h
  have hs : fSort L := fSort_view.1 (by rw [hv]; exact ok.sort)
  have e : fbUsed L = dUsed d.l := by rw [← used_view, hv]
  have := dk_used b mb L d.lim d.down w hA hs (view_names hv ok) (by rw [e]; omega)
  rw [e] at this
  exact this
theorem Dk.down_ (h : Dk w S b d) : Calls Try.prog 29 #[.pointer (some ⟨b, 0, none⟩)] w fun e w' => e = .returned (.bool d.down) ∧ w' = w := by
  obtain ⟨mb, L, hA, hv, hS, hlt⟩ := h
  exact dk_down b mb L d.lim d.down w hA
theorem Dk.start_ (h : Dk w S b d) : Calls Try.prog 18 #[.pointer (some ⟨b, 0, none⟩)] w (DkPost w S b (.tuple #[]) { d with down := false }) := by
  obtain ⟨mb, L, hA, hv, hS, hlt⟩ := h
  refine (dk_start b mb L d.lim d.down w hA).mono fun e w' ⟨he, hw⟩ => ⟨he, S, ⟨mb, L, ?_, hv, hS, ?_⟩, ?_, fun k hk => .inl hk⟩
  · subst hw
    have hb := hA.head.set_ 2 (.bool false)
    have hfar : ∀ k, k ≠ b → (w.setCell ⟨b, 2, none⟩ (.bool false)).heap[k]? = w.heap[k]? := fun k hk => Below.heap_setCell _ _ _ _ hk
    refine ⟨by simpa using hb, ownsMap_keep hA.map (hfar _ (map_not_cells hA.map hA.head).symm), fun p hp => ?_, hA.apart, hA.rows⟩
    have hf := hA.files p hp
    obtain ⟨sv, hfb, _⟩ := hf
    refine (hA.files p hp).keep (hfar _ (hfb.ne_ hA.head (by decide))) fun g hg => hfar _ ?_
    obtain ⟨cs, hc⟩ := (hA.files p hp).row_is hg
    exact hc.ne_ hA.head (by decide)
  · subst hw; intro k hk; simpa using hlt k hk
  · subst hw
    exact (Mod.refl S w).setCell (.inl (hS _ (.inl rfl))) _

theorem dk_new_ (lim : Int) (w : World) :
    Calls Try.prog 14 #[.int .i64 lim] w fun e w' => ∃ b, e = .returned (.pointer (some ⟨b, 0, none⟩)) ∧ Dk w' (fun k => w.heap.size ≤ k ∧ k < w'.heap.size) b ⟨if lim < 0 then 0 else lim, [], false⟩ ∧ Below w.heap.size w w' := by
  refine (dk_new lim w).mono fun e w' ⟨he, hw⟩ => ⟨_, he, ⟨w.heap.size, [], ?_, rfl, ?_, fun k hk => hk.2⟩, ?_⟩
  · have hmap : (w.alloc (.map #[] 0)).ownsMap Try.prog 9 heldR w.heap.size 0 (.map []) := World.ownsMap_made w _ _ _
    subst hw
    refine ⟨?_, ?_, (fun p hp => by cases hp), List.Pairwise.nil, List.Pairwise.nil⟩
    · have := Blk.new (w.alloc (.map #[] 0)) 60 #[.int .i64 (if lim < 0 then 0 else lim), .map (some w.heap.size), .bool false]
      simpa using this
    · exact ownsMap_keep hmap (Below.heap_alloc _ _ _ (by simp))
  · rintro k (rfl | rfl | ⟨p, hp, _⟩)
    · subst hw; simp
    · subst hw; simp; omega
    · cases hp
  · subst hw
    exact ((Below.refl _ w).alloc (Nat.le_refl _) _).alloc (by simp) _

theorem fSort.get_none_put {α : Type} {n : Nm} {v : α} {l : List (Nm × α)} (p : Nm × α) (hp : p ∈ fPut n v l) (hg : fGet n l = none) : p = (n, v) ∨ (p ∈ l ∧ p.1 ≠ n) := mem_fPut.1 hp

theorem Dk.append_new (hA : DkAt w b mb L d.lim d.down) (hv : dkView L = d.l) (hS : ∀ k, dkFoot b mb L k → S k) (hlt : ∀ k, S k → k < w.heap.size) (hs : fSort L) (n : Nm) (x : List UInt8) (hg : fGet n L = none) {e : Ending} {w' : World} (h : AppNew w mb n x L e w') :
    DkPost w S b (.int .i64 0) { d with l := fPut n ⟨x, 0⟩ d.l } e w' := by
  obtain ⟨he, w1, w2, w3, v, hB1, ht2, hm2, hb2, hr3, hg3, hv3, rfl⟩ := h
  have hA1 := hA.below (B := 0) hB1
  have hsz1 := hB1.size
  have hsz2 : w2.heap.size = w1.heap.size + 1 := by rw [turned_size ht2]; simp
  have hsz3 := hg3.size
  have hmb := hA1.map.lt
  have hkeep : ∀ k, k < w1.heap.size → k ≠ mb → (w3.setCell ⟨w1.heap.size, 0, none⟩ v).heap[k]? = w1.heap[k]? := fun k hk hne =>
    (Below.heap_setCell _ _ _ _ (show k ≠ w1.heap.size by omega)).trans ((hg3.block k (by omega) (by simp)).trans ((ht2.grown.block k (by simp; omega) fun e => hne (by injection e)).trans (Below.heap_alloc _ _ _ hk)))
  have hvne : v.ownBlock ≠ some w1.heap.size := by
    rcases hv3 with h | h <;> rw [h]
    · simp
    · rw [hsz2]; simp
  have hfile : FileAt (w3.setCell ⟨w1.heap.size, 0, none⟩ v) ⟨w1.heap.size, v.ownBlock, ⟨x, 0⟩⟩ := by
    refine ⟨v, ?_, hr3.kept (row := some w1.heap.size) ⟨rfl, rfl, rfl, by simp, fun k _ hk => Below.heap_setCell _ _ _ _ fun e => hk (by rw [e])⟩ (.inr hvne), rfl⟩
    have := (hb2.keep (w' := w3) (hg3.block _ hb2.lt (by simp))).set_ 0 v
    simpa using this
  have hnew : ∀ q ∈ L, q.2.blk < w1.heap.size ∧ ∀ r, q.2.row = some r → r < w1.heap.size := fun q hq => ⟨(hA1.files q hq).blk_lt, fun r hr => (hA1.files q hq).row_lt hr⟩
  have hm' := ownsMap_tight (ownsMap_keep (w' := w3.setCell ⟨w1.heap.size, 0, none⟩ v) hm2 ((Below.heap_setCell _ _ _ _ (show mb ≠ w1.heap.size by omega)).trans (hg3.block mb (by omega) (by simp))))
  simp only [List.length_map] at hm'
  have hap : ∀ p ∈ fPut n (⟨w1.heap.size, v.ownBlock, ⟨x, 0⟩⟩ : FB) L, ∀ q ∈ fPut n (⟨w1.heap.size, v.ownBlock, ⟨x, 0⟩⟩ : FB) L, p.1 ≠ q.1 → p.2.blk ≠ q.2.blk ∧ ∀ r, p.2.row = some r → q.2.row ≠ some r := by
    intro p hp q hq hne
    rcases mem_fPut.1 hp with rfl | ⟨hp1, hp2⟩ <;> rcases mem_fPut.1 hq with rfl | ⟨hq1, hq2⟩
    · exact absurd rfl hne
    · obtain ⟨h1, h2⟩ := hnew q hq1
      refine ⟨by simp only; omega, fun r hr hr2 => ?_⟩
      have := h2 r hr2
      rcases hv3 with h | h
      · rw [h] at hr; cases hr
      · rw [h] at hr; injection hr with hr; omega
    · obtain ⟨h1, h2⟩ := hnew p hp1
      refine ⟨by simp only; omega, fun r hr hr2 => ?_⟩
      have := h2 r hr
      rcases hv3 with h | h
      · rw [h] at hr2; cases hr2
      · rw [h] at hr2; injection hr2 with hr2; omega
    · exact hA1.two hs p hp1 q hq1 hne
  refine ⟨he, fun k => S k ∨ (w.heap.size ≤ k ∧ k < (w3.setCell ⟨w1.heap.size, 0, none⟩ v).heap.size), ⟨mb, fPut n ⟨w1.heap.size, v.ownBlock, ⟨x, 0⟩⟩ L, ?_, by rw [view_put, hv], ?_, ?_⟩, ?_, fun k hk => hk.imp id And.left⟩
  · refine hA1.reMap hm' (fun p hp => ?_) (pair_of hs.put fun p hp q hq hne => (hap p hp q hq hne).1) (pair_of hs.put fun p hp q hq hne => (hap p hp q hq hne).2) hkeep
    rcases mem_fPut.1 hp with rfl | ⟨hp1, _⟩
    · exact .inr hfile
    · exact .inl ⟨p, hp1, rfl⟩
  · rintro k (rfl | rfl | ⟨p, hp, hpk⟩)
    · exact .inl (hS _ (.inl rfl))
    · exact .inl (hS _ (.inr (.inl rfl)))
    · rcases mem_fPut.1 hp with rfl | ⟨hp1, _⟩
      · right
        rcases hpk with rfl | hpk
        · exact ⟨hsz1, hfile.blk_lt⟩
        · refine ⟨?_, hfile.row_lt hpk⟩
          rcases hv3 with h | h
          · rw [h] at hpk; cases hpk
          · rw [h] at hpk; injection hpk with hpk; omega
      · exact .inl (hS k (.inr (.inr ⟨p, hp1, hpk⟩)))
  · rintro k (hk | hk)
    · have := hlt k hk
      simp; omega
    · exact hk.2
  · have hSmb : S mb := hS _ (.inr (.inl rfl))
    exact (((Mod.of_below hB1 S).trans ((((Mod.refl S w1).alloc _).trans (turned_mod ht2 hSmb) fun i hi => .inl hi).trans (Mod.of_grown hg3 fun k e => by cases e) fun i hi => .inl hi) fun i hi => .inl hi)).setCell (.inr hsz1) _

theorem Dk.append_old (hA : DkAt w b mb L d.lim d.down) (hv : dkView L = d.l) (hS : ∀ k, dkFoot b mb L k → S k) (hlt : ∀ k, S k → k < w.heap.size) (hs : fSort L) (n : Nm) (x : List UInt8) (f : FB) (hg : fGet n L = some f) {e : Ending} {w' : World} (h : AppOld w f x e w') :
    DkPost w S b (.int .i64 0) { d with l := fSet n ⟨f.f.b ++ x, f.f.s⟩ d.l } e w' := by
  obtain ⟨he, w1, sv, w2, v, hB1, hr1, hown, hb1, hr2, hg2, hvb, rfl⟩ := h
  have hA1 := hA.below (B := 0) hB1
  have hsz1 := hB1.size
  have hsz2 := hg2.size
  have hmem := fGet_mem hg
  have hrowne : f.row ≠ some f.blk := fun e => by
    obtain ⟨cs, hc⟩ := (hA1.files _ hmem).row_is e
    exact hc.ne_ hb1 (by decide) rfl
  have hvne : v.ownBlock ≠ some f.blk := by
    rcases hvb with h | h <;> rw [h]
    · rw [hown]; exact hrowne
    · intro e
      injection e with e
      have := hb1.lt
      omega
  have hfile : FileAt (w2.setCell ⟨f.blk, 0, none⟩ v) ⟨f.blk, v.ownBlock, ⟨f.f.b ++ x, f.f.s⟩⟩ := by
    refine ⟨v, ?_, hr2.kept (row := some f.blk) ⟨rfl, rfl, rfl, by simp, fun k _ hk => Below.heap_setCell _ _ _ _ fun e => hk (by rw [e])⟩ (.inr hvne), rfl⟩
    have := (hb1.keep (w' := w2) (hg2.block _ hb1.lt (by rw [hown]; exact fun e => hrowne e.symm))).set_ 0 v
    simpa using this
  have hblk : S f.blk := hS _ (.inr (.inr ⟨_, hmem, .inl rfl⟩))
  refine ⟨he, fun k => S k ∨ (w.heap.size ≤ k ∧ k < (w2.setCell ⟨f.blk, 0, none⟩ v).heap.size), ⟨mb, fSet n ⟨f.blk, v.ownBlock, ⟨f.f.b ++ x, f.f.s⟩⟩ L, ?_, by rw [view_set, hv], ?_, ?_⟩, ?_, fun k hk => hk.imp id And.left⟩
  · refine hA1.setFile hs hg rfl ?_ hfile fun k _ hk hne hro => ?_
    · rcases hvb with h | h
      · exact .inl (h.trans hown)
      · exact .inr ⟨_, h, Nat.le_refl _⟩
    · exact (Below.heap_setCell _ _ _ _ hne).trans (hg2.block k hk (by rw [hown]; exact fun e => hro e.symm))
  · rintro k (rfl | rfl | ⟨p, hp, hpk⟩)
    · exact .inl (hS _ (.inl rfl))
    · exact .inl (hS _ (.inr (.inl rfl)))
    · rcases mem_fSet hp with rfl | ⟨hp1, _⟩
      · rcases hpk with rfl | hpk
        · exact .inl hblk
        · rcases hvb with h | h
          · exact .inl (hS k (.inr (.inr ⟨_, hmem, .inr (by rw [← hown, ← h]; exact hpk)⟩)))
          · refine .inr ⟨?_, hfile.row_lt hpk⟩
            have hpk : v.ownBlock = some k := hpk
            rw [h] at hpk; injection hpk with hpk; omega
      · exact .inl (hS k (.inr (.inr ⟨p, hp1, hpk⟩)))
  · rintro k (hk | hk)
    · have := hlt k hk
      simp; omega
    · exact hk.2
  · refine ((Mod.of_below hB1 S).trans (Mod.of_grown (S := S) hg2 fun k e => ?_) fun i hi => .inl hi).setCell (.inl hblk) _
    rw [hown] at e
    exact hS k (.inr (.inr ⟨_, hmem, .inr e⟩))

theorem Dk.append_ (h : Dk w S b d) (ok : DOk d) (n : Nm) (hn : n.length ≤ maxLen) (A : Option Addr) (c : Nat) (x : List UInt8) (hr : Reads w w.heap.size 1 A x.length (x.map u8V)) (hl : d.l.length < maxLen) (hl1 : d.lim ≤ 9223372036854775807) (hu : dUsed d.l + x.length ≤ 140737488355328) :
    Calls Try.prog 15 #[.pointer (some ⟨b, 0, none⟩), .string ⟨n.toArray⟩, .slice A x.length c] w (DkPost w S b (.int .i64 (dAppendE d n x)) (dAppend d n x)) := by
  obtain ⟨mb, L, hA, hv, hS, hlt⟩ := h
  have hE := dMay_of hv false n
  have hs : fSort L := fSort_view.1 (by rw [hv]; exact ok.sort)
  have hused : fbUsed L = dUsed d.l := by rw [← used_view, hv]
  have hLl : L.length < maxLen := by rw [← hv] at hl; simpa [dkView] using hl
  by_cases h0 : dMay d false n n = 0
  · by_cases hf : d.lim - (dUsed d.l : Int) < x.length
    · have e : dAppendE d n x = 5 := by unfold dAppendE; rw [if_pos h0, if_pos hf]
      have e2 : dAppend d n x = d := by unfold dAppend; rw [e]; rfl
      rw [e, e2]
      exact (dk_append_full b mb L d.lim d.down n A x.length c w hA hn hs (view_names hv ok) (by omega) ok.lim hl1 (hE.trans h0) (by rw [hused]; simpa using hf)).mono fun e w' ⟨he, hB⟩ => DkPost.same ⟨mb, L, hA, hv, hS, hlt⟩ he hB
    · have e : dAppendE d n x = 0 := by unfold dAppendE; rw [if_pos h0, if_neg hf]
      have e2 : dAppend d n x = { d with l := fPut n ⟨(dOld n d.l).b ++ x, (dOld n d.l).s⟩ d.l } := by unfold dAppend; rw [if_pos e]
      rw [e, e2]
      have hfull : decide (d.lim - (fbUsed L : Int) < (x.length : Int)) = false := by rw [hused]; simpa using hf
      cases hg : fGet n L with
      | none =>
        have hgd : fGet n d.l = none := by rw [← hv, dkView_get, hg]; rfl
        have e3 : dOld n d.l = ⟨[], 0⟩ := by unfold dOld; rw [hgd]; rfl
        rw [e3]
        exact (dk_append_new b mb L d.lim d.down n A c x w hA hn hLl hs (view_names hv ok) (by omega) ok.lim hl1 (hE.trans h0) hg hr (by omega) hfull).mono fun e w' h => Dk.append_new hA hv hS hlt hs n x hg h
      | some f =>
        have hgd : fGet n d.l = some f.f := by rw [← hv, dkView_get, hg]; rfl
        have e3 : dOld n d.l = f.f := by unfold dOld; rw [hgd]; rfl
        have hfl : f.f.b.length ≤ dUsed d.l := dUsed_mem (fGet_mem hgd)
        rw [e3, fPut_eq_set ok.sort hgd]
        exact (dk_append_old b mb L d.lim d.down n A c x f w hA hn hs (view_names hv ok) (by omega) ok.lim hl1 (hE.trans h0) hg hr (by omega) hfull).mono fun e w' h => Dk.append_old hA hv hS hlt hs n x f hg h
  · have hb : (dMay d false n n != 0) = true := by rw [bne_iff_ne]; exact h0
    have e : dAppendE d n x = dMay d false n n := by unfold dAppendE; rw [if_neg h0]
    have e2 : dAppend d n x = d := by unfold dAppend; rw [e, if_neg h0]
    rw [e, e2]
    exact (dk_append_no b mb L d.lim d.down n A x.length c w hA hn _ hE hb).mono fun e w' ⟨he, hB⟩ => DkPost.same ⟨mb, L, hA, hv, hS, hlt⟩ he hB
end
end Go.Proofs.Ytbkenickmiapdaa
