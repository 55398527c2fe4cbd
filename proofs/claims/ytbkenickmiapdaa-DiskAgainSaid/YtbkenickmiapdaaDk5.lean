/- DERIVED. Package disk: Sync, Delete, Read over 'Dk'. -/
import Derived.Test.YtbkenickmiapdaaDk4
namespace Go.Proofs.Ytbkenickmiapdaa
set_option linter.unusedVariables false
set_option linter.unusedSimpArgs false
open Go.RowKit

theorem dMay_zero {d : DS} {there : Bool} {n m : Nm} (h : dMay d there n m = 0) : d.down = false ∧ nmBad n = false ∧ nmBad m = false ∧ (there = true → ∃ f, fGet n d.l = some f) := by
  unfold dMay at h
  cases hd : d.down with
  | true => rw [hd] at h; cases h
  | false =>
    rw [hd] at h
    by_cases hb : (nmBad n || nmBad m) = true
    · rw [if_neg (by simp), if_pos hb] at h; cases h
    · rw [if_neg (by simp), if_neg hb] at h
      simp at hb
      refine ⟨rfl, hb.1, hb.2, fun ht => ?_⟩
      subst ht
      cases hg : fGet n d.l with
      | some f => exact ⟨f, rfl⟩
      | none => rw [hg] at h; cases h
theorem view_some {L : List (Nm × FB)} {l : List (Nm × DF)} (hv : dkView L = l) {n : Nm} {f : DF} (h : fGet n l = some f) : ∃ x, fGet n L = some x ∧ x.f = f := by
  rw [← hv, dkView_get] at h
  cases hg : fGet n L with
  | none => rw [hg] at h; cases h
  | some x => rw [hg] at h; injection h with h; exact ⟨x, rfl, h⟩
theorem nmBad_len {n : Nm} (h : nmBad n = false) : n.length ≤ 64 := by
  unfold nmBad at h
  simp at h
  omega
theorem below_alloc_drewN (w : World) (o : Obj) (k : Nat) : Below w.heap.size w ((w.alloc o).drewN k) := ((Below.refl _ w).alloc (Nat.le_refl _) _).trans ⟨rfl, rfl, rfl, Nat.le_refl _, fun _ _ => rfl⟩

section
variable {w : World} {S : Foot} {b : Nat} {d : DS}

theorem Dk.sync_ (h : Dk w S b d) (ok : DOk d) (n : Nm) (hn : n.length ≤ maxLen) :
    Calls Try.prog 16 #[.pointer (some ⟨b, 0, none⟩), .string ⟨n.toArray⟩] w (DkPost w S b (.int .i64 (dMay d true n n)) (dSync d n)) := by
  obtain ⟨mb, L, hA, hv, hS, hlt⟩ := h
  have hE := dMay_of hv true n
  by_cases h0 : dMay d true n n = 0
  · obtain ⟨hd, _, _, hf⟩ := dMay_zero h0
    obtain ⟨f, hf⟩ := hf rfl
    obtain ⟨x, hg, hxf⟩ := view_some hv hf
    have hs : fSort L := fSort_view.1 (by rw [hv]; exact ok.sort)
    obtain ⟨sv, hb, hrow, hown⟩ := (hA.files _ (fGet_mem hg)).ex
    obtain ⟨A, c, hsv⟩ : ∃ A c, sv = .slice A x.f.b.length c := by
      rcases hrow.2 with ⟨h1, h2⟩ | ⟨g, cap, cur, h1, _⟩
      · exact ⟨none, 0, by rw [h1, h2]⟩
      · exact ⟨_, _, h1⟩
    have e : dSync d n = { d with l := fSet n ⟨x.f.b, x.f.b.length⟩ d.l } := by
      unfold dSync dOld
      rw [if_pos h0, hf, ← hxf]
      show ({ d with l := fPut n ⟨x.f.b, x.f.b.length⟩ d.l } : DS) = _
      rw [fPut_eq_set ok.sort hf]
    rw [e, h0]
    refine (dk_sync_yes b mb L d.lim d.down n x sv A c w hA hn (hE.trans h0) hg hsv hb).mono fun e w' ⟨he, k, hw⟩ => ?_
    have hA1 := alloc_foot hA (.cells #[.string ⟨n.toArray⟩] 9) k
    have hB1 := below_alloc_drewN w (.cells #[.string ⟨n.toArray⟩] 9) k
    generalize (w.alloc (.cells #[.string ⟨n.toArray⟩] 9)).drewN k = w1 at *
    subst hw
    obtain ⟨sv1, hb1, hrow1, hown1⟩ := (hA1.files _ (fGet_mem hg)).ex
    have hblk : S x.blk := hS _ (.inr (.inr ⟨_, fGet_mem hg, .inl rfl⟩))
    refine ⟨he, S, ⟨mb, fSet n { x with f := ⟨x.f.b, x.f.b.length⟩ } L, ?_, ?_, ?_, ?_⟩, ?_, fun k hk => .inl hk⟩
    · refine hA1.setFile hs hg rfl (.inl rfl) ⟨sv1, ?_, ?_, hown1⟩ fun k _ _ hk _ => Below.heap_setCell _ _ _ _ hk
      · have := hb1.set_ 1 (.int .i64 x.f.b.length)
        simpa using this
      · refine hrow1.kept (row := some x.blk) ⟨rfl, rfl, rfl, by simp, fun k _ hk => Below.heap_setCell _ _ _ _ fun e => hk (by rw [e])⟩ ?_
        right
        intro e
        obtain ⟨cs, hc⟩ := (hA1.files _ (fGet_mem hg)).row_is (hown1.symm.trans e)
        exact hc.ne_ hb1 (by decide) rfl
    · rw [view_set, hv]
    · rintro k (rfl | rfl | ⟨p, hp, hpk⟩)
      · exact hS _ (.inl rfl)
      · exact hS _ (.inr (.inl rfl))
      · rcases mem_fSet hp with rfl | ⟨hp, _⟩
        · exact hS k (.inr (.inr ⟨_, fGet_mem hg, hpk⟩))
        · exact hS k (.inr (.inr ⟨p, hp, hpk⟩))
    · intro k hk
      have := hlt k hk
      have := hB1.size
      simp; omega
    · exact (Mod.of_below hB1 S).setCell (.inl hblk) _
  · have e : dSync d n = d := by unfold dSync; rw [if_neg h0]
    rw [e]
    exact (dk_sync_no b mb L d.lim d.down n w hA hn _ hE (by simpa using h0)).mono fun e w' ⟨he, hB⟩ => DkPost.same ⟨mb, L, hA, hv, hS, hlt⟩ he hB
end

set_option maxHeartbeats 400000 in
theorem dk_delete_no (b mb : Nat) (L : List (Nm × FB)) (lim : Int) (down : Bool) (n : Nm) (w : World) (h : DkAt w b mb L lim down) (hn : n.length ≤ maxLen) (E : Int) (hE : dMayV down true [n] (fGet n L).isSome = E) (h0 : (E == 0) = false) :
    Calls Try.prog 28 #[.pointer (some ⟨b, 0, none⟩), .string ⟨n.toArray⟩] w fun e w' => e = .returned (.int .i64 E) ∧ Below w.heap.size w w' := by
  have km := dk_may1 b mb L lim down true n w h hn
  rw [hE] at km
  have KM := hide km
  clear km h hE
  go_enter Try.func28, Try.ntmps28
  go_wp2_with fail
  refine KM.out.mono ?_
  rintro e w' ⟨rfl, k, rfl⟩
  go_wp2_with fail
  go_ret
  exact ⟨rfl, below_alloc_drewN _ _ _⟩

set_option maxHeartbeats 400000 in
theorem dk_delete_yes (b mb : Nat) (L : List (Nm × FB)) (lim : Int) (down : Bool) (n : Nm) (w : World) (h : DkAt w b mb L lim down) (hn : n.length ≤ maxLen) (hE : dMayV down true [n] (fGet n L).isSome = 0) :
    Calls Try.prog 28 #[.pointer (some ⟨b, 0, none⟩), .string ⟨n.toArray⟩] w fun e w' => e = .returned (.int .i64 0) ∧ ∃ k, ((w.alloc (.cells #[.string ⟨n.toArray⟩] 9)).drewN k).mapTurned w' mb ∧
      w'.ownsMap Try.prog 9 heldR mb L.length (.map ((fDel n L).map encF)) := by
  have km := dk_may1 b mb L lim down true n w h hn
  rw [hE] at km
  have KM := hide km
  have hA := hide (alloc_foot h (.cells #[.string ⟨n.toArray⟩] 9))
  clear km h hE
  generalize hw1 : w.alloc (.cells #[.string ⟨n.toArray⟩] 9) = w1 at *
  have HW1 := hide hw1
  go_enter Try.func28, Try.ntmps28
  go_wp2_with fail
  refine KM.out.mono ?_
  rintro e w' ⟨rfl, k, rfl⟩
  clear hw1
  have hAk := hA.out k
  have c1 : (w1.drewN k).cell? ⟨b, 1, none⟩ = some (.map (some mb)) := hAk.head.cell 1
  obtain ⟨w2, hrun, hm2, ht2⟩ := hAk.map.drop keyed Try.underlying58 (key_of n hn) 0
  rw [enc_del_map] at hm2
  have HM2 := hide hm2
  have HT2 := hide ht2
  clear hm2 ht2 hAk
  go_wp2_with fail
  go_ret
  exact ⟨rfl, k, HT2.out, HM2.out⟩
end Go.Proofs.Ytbkenickmiapdaa
