/- DERIVED. Package disk: Delete, Read, Rename over 'Dk'. -/
import Derived.Test.YtbkenickmiapdaaDk5
namespace Go.Proofs.Ytbkenickmiapdaa
set_option linter.unusedVariables false
set_option linter.unusedSimpArgs false
open Go.RowKit

theorem fDel_len {α : Type} (n : Nm) (l : List (Nm × α)) : (fDel n l).length ≤ l.length := List.length_filter_le _ _

theorem turned_mod {w w' : World} {mb : Nat} {S : Foot} (h : w.mapTurned w' mb) (hS : S mb) : Mod S w w' := by
  have g := h.grown
  exact ⟨g.os, g.tape, g.output, g.size, fun k hk hn => g.block k hk fun e => hn (by injection e with e; rw [e]; exact hS)⟩
theorem turned_size {w w' : World} {mb : Nat} (h : w.mapTurned w' mb) : w'.heap.size = w.heap.size := by
  obtain ⟨es, clock, es', clock', _, rfl⟩ := h
  simp [ChangeMaps.setBlock]

section
variable {w : World} {S : Foot} {b : Nat} {d : DS}
theorem Dk.delete_ (h : Dk w S b d) (ok : DOk d) (n : Nm) (hn : n.length ≤ maxLen) :
    Calls Try.prog 28 #[.pointer (some ⟨b, 0, none⟩), .string ⟨n.toArray⟩] w (DkPost w S b (.int .i64 (dMay d true n n)) (dDelete d n)) := by
  obtain ⟨mb, L, hA, hv, hS, hlt⟩ := h
  have hE := dMay_of hv true n
  by_cases h0 : dMay d true n n = 0
  · have e : dDelete d n = { d with l := fDel n d.l } := by unfold dDelete; rw [if_pos h0]
    rw [e, h0]
    refine (dk_delete_yes b mb L d.lim d.down n w hA hn (hE.trans h0)).mono fun e w' ⟨he, k, ht, hm⟩ => ?_
    have hA1 := alloc_foot hA (.cells #[.string ⟨n.toArray⟩] 9) k
    have hB1 := below_alloc_drewN w (.cells #[.string ⟨n.toArray⟩] 9) k
    generalize (w.alloc (.cells #[.string ⟨n.toArray⟩] 9)).drewN k = w1 at *
    have hmb : S mb := hS _ (.inr (.inl rfl))
    have hm' := ownsMap_tight hm
    simp only [List.length_map] at hm'
    refine ⟨he, S, ⟨mb, fDel n L, ?_, by rw [view_del, hv], ?_, ?_⟩, (Mod.of_below hB1 S).trans (turned_mod ht hmb) (fun i hi => .inl hi), fun k hk => .inl hk⟩
    · refine hA1.reMap hm' (fun p hp => .inl ⟨p, (mem_fDel.1 hp).1, rfl⟩) (hA1.apart.filter _) (hA1.rows.filter _) fun k hk hne => ?_
      exact ht.grown.block k hk fun e => hne (by injection e)
    · rintro k (rfl | rfl | ⟨p, hp, hpk⟩)
      · exact hS _ (.inl rfl)
      · exact hmb
      · exact hS k (.inr (.inr ⟨p, (mem_fDel.1 hp).1, hpk⟩))
    · intro k hk
      have := hlt k hk
      have := hB1.size
      rw [turned_size ht]; omega
  · have e : dDelete d n = d := by unfold dDelete; rw [if_neg h0]
    rw [e]
    exact (dk_delete_no b mb L d.lim d.down n w hA hn _ hE (by simpa using h0)).mono fun e w' ⟨he, hB⟩ => DkPost.same ⟨mb, L, hA, hv, hS, hlt⟩ he hB

set_option maxHeartbeats 400000 in
theorem Dk.read_ (h : Dk w S b d) (ok : DOk d) (n : Nm) (hn : n.length ≤ maxLen) (hu : dUsed d.l ≤ 140737488355328) :
    Calls Try.prog 19 #[.pointer (some ⟨b, 0, none⟩), .string ⟨n.toArray⟩] w fun e w' => ∃ v, e = .returned (.tuple #[v, .int .i64 (dMay d true n n)]) ∧ w'.ownsRow w.heap.size 5 1 v (dReadB d n).length ((dReadB d n).map u8V) ∧ Below w.heap.size w w' := by
  obtain ⟨mb, L, hA, hv, hS, hlt⟩ := h
  have hE := dMay_of hv true n
  have km := dk_may1 b mb L d.lim d.down true n w hA hn
  rw [hE] at km
  by_cases h0 : dMay d true n n = 0
  · obtain ⟨hd, _, _, hf⟩ := dMay_zero h0
    obtain ⟨f, hf⟩ := hf rfl
    obtain ⟨x, hg, hxf⟩ := view_some hv hf
    have e : dReadB d n = x.f.b := by unfold dReadB dOld; rw [if_pos h0, hf, ← hxf]; rfl
    have hlen : x.f.b.length ≤ 140737488355328 := by
      refine Nat.le_trans ?_ hu
      rw [hxf]
      exact dUsed_mem (fGet_mem hf)
    rw [e, h0]
    rw [h0] at km
    have KM := hide km
    have hAk := hide (alloc_foot hA (.cells #[.string ⟨n.toArray⟩] 9))
    have hB1 := hide (below_alloc_drewN w (.cells #[.string ⟨n.toArray⟩] 9))
    have HG := hide hg
    have HLEN := hide hlen
    clear km hE h0 hd hf e hu ok hS hlt hv hA hxf hg hlen
    generalize hw1 : w.alloc (.cells #[.string ⟨n.toArray⟩] 9) = w1 at *
    go_enter Try.func19, Try.ntmps19
    go_wp2_with fail
    refine KM.out.mono ?_
    rintro e w' ⟨rfl, k, rfl⟩
    clear hw1
    have hA1 := hAk.out k
    have c1 : (w1.drewN k).cell? ⟨b, 1, none⟩ = some (.map (some mb)) := hA1.head.cell 1
    have hlook : (Instr.lookup 58 (.map (some mb)) (.string ⟨n.toArray⟩) false).run Try.prog (w1.drewN k) = .ok (.pointer (some ⟨x.blk, 0, none⟩)) (w1.drewN k) := by
      have := hA1.look n hn 0
      rw [HG.out] at this
      exact this
    obtain ⟨sv, hb, hrow, hown⟩ := (hA1.files _ (fGet_mem HG.out)).ex
    obtain ⟨A, c, rfl, hAc⟩ : ∃ A c, sv = .slice A x.f.b.length c ∧ (A = none → c = 0) := by
      rcases hrow.2 with ⟨h1, h2⟩ | ⟨g, cap, cur, h1, _⟩
      · exact ⟨none, 0, by rw [h1, h2], fun _ => rfl⟩
      · exact ⟨_, _, h1, fun h => by cases h⟩
    have c2 : (w1.drewN k).cell? ⟨x.blk, 0, none⟩ = some (.slice A x.f.b.length c) := hb.cell 0
    have kc := clone_u8 A c x.f.b (w1.drewN k) (Reads.of_own hrow) hAc HLEN.out
    have KC := hide kc
    have HB := hB1.out k
    clear kc hA1 hb hrow hown hAc hB1 hAk KM
    go_wp2_with fail
    refine KC.out.mono ?_
    rintro e w' ⟨v, rfl, hrow', hB'⟩
    go_wp2_with fail
    go_ret2
    exact ⟨v, rfl, ownsRow_low hrow' HB.size, HB.trans (hB'.mono HB.size)⟩
  · have e : dReadB d n = [] := by unfold dReadB; rw [if_neg h0]
    have hb : (dMay d true n n != 0) = true := by rw [bne_iff_ne]; exact h0
    rw [e]
    generalize dMay d true n n = E at *
    have KM := hide km
    clear km hE h0 e hu ok hS hlt hv hA
    go_enter Try.func19, Try.ntmps19
    go_wp2_with fail
    refine KM.out.mono ?_
    rintro e w' ⟨rfl, k, rfl⟩
    go_wp2_with fail
    go_ret2
    exact ⟨_, rfl, World.ownsRow_nil _ _ _ _, below_alloc_drewN _ _ _⟩
end

theorem texts_two {w : World} {n m : Nm} : TextsAt (w.alloc (.cells #[.string ⟨n.toArray⟩, .string ⟨m.toArray⟩] 9)) w.heap.size [n, m] := by
  intro i h
  have : i = 0 ∨ i = 1 := by simp at h; omega
  rcases this with rfl | rfl <;> simp
theorem dk_may2 (b mb : Nat) (L : List (Nm × FB)) (lim : Int) (down there : Bool) (n m : Nm) (w : World) (h : DkAt w b mb L lim down) (hn : n.length ≤ maxLen) (hm : m.length ≤ maxLen) :
    Calls Try.prog 33 #[.pointer (some ⟨b, 0, none⟩), .bool there, .slice (some ⟨w.heap.size, 0, none⟩) 2 2] (w.alloc (.cells #[.string ⟨n.toArray⟩, .string ⟨m.toArray⟩] 9)) fun e w' =>
      e = .returned (.int .i64 (dMayV down there [n, m] (fGet n L).isSome)) ∧ ∃ k, w' = (w.alloc (.cells #[.string ⟨n.toArray⟩, .string ⟨m.toArray⟩] 9)).drewN k :=
  dk_may b mb w.heap.size 2 L lim down there n [m] _ (alloc_foot h _ 0) (by simp) (fun x hx => by simp at hx; rcases hx with rfl | rfl <;> assumption) texts_two

set_option maxHeartbeats 400000 in
/-- Rename, where nothing turns: an error, or one name. -/
theorem dk_rename_no (b mb : Nat) (L : List (Nm × FB)) (lim : Int) (down : Bool) (n m : Nm) (w : World) (h : DkAt w b mb L lim down) (hn : n.length ≤ maxLen) (hm : m.length ≤ maxLen) (E : Int) (hE : dMayV down true [n, m] (fGet n L).isSome = E) (h0 : (E == 0) = false ∨ n = m) :
    Calls Try.prog 21 #[.pointer (some ⟨b, 0, none⟩), .string ⟨n.toArray⟩, .string ⟨m.toArray⟩] w fun e w' => e = .returned (.int .i64 E) ∧ Below w.heap.size w w' := by
  have km := dk_may2 b mb L lim down true n m w h hn hm
  rw [hE] at km
  have KM := hide km
  clear km h hE
  by_cases hz : E = 0
  · have hz1 : (E == 0) = true := by simpa using hz
    have hnm : n = m := by
      rcases h0 with h0 | h0
      · rw [hz1] at h0; cases h0
      · exact h0
    subst hnm
    clear h0 hz
    go_enter Try.func21, Try.ntmps21
    go_wp2_with fail
    refine KM.out.mono ?_
    rintro e w' ⟨rfl, k, rfl⟩
    go_wp2_with fail
    go_ret
    exact ⟨rfl, below_alloc_drewN _ _ _⟩
  · have hz1 : (E == 0) = false := by simpa using hz
    clear h0 hz
    go_enter Try.func21, Try.ntmps21
    go_wp2_with fail
    refine KM.out.mono ?_
    rintro e w' ⟨rfl, k, rfl⟩
    go_wp2_with fail
    go_ret
    exact ⟨rfl, below_alloc_drewN _ _ _⟩

set_option maxHeartbeats 1000000 in
theorem dk_rename_yes (b mb : Nat) (L : List (Nm × FB)) (lim : Int) (down : Bool) (n m : Nm) (x : FB) (w : World) (h : DkAt w b mb L lim down) (hn : n.length ≤ maxLen) (hm : m.length ≤ maxLen) (hL : L.length < maxLen) (hE : dMayV down true [n, m] (fGet n L).isSome = 0) (hg : fGet n L = some x) (hne : n ≠ m) :
    Calls Try.prog 21 #[.pointer (some ⟨b, 0, none⟩), .string ⟨n.toArray⟩, .string ⟨m.toArray⟩] w fun e w' => e = .returned (.int .i64 0) ∧ ∃ k W2, ((w.alloc (.cells #[.string ⟨n.toArray⟩, .string ⟨m.toArray⟩] 9)).drewN k).mapTurned W2 mb ∧ W2.mapTurned w' mb ∧
      w'.ownsMap Try.prog 9 heldR mb (L.length + 1) (.map ((fDel n (fPut m x L)).map encF)) := by
  have km := dk_may2 b mb L lim down true n m w h hn hm
  rw [hE] at km
  have KM := hide km
  have hA := hide (alloc_foot h (.cells #[.string ⟨n.toArray⟩, .string ⟨m.toArray⟩] 9))
  have HG := hide hg
  clear km h hE hg
  generalize hw1 : w.alloc (.cells #[.string ⟨n.toArray⟩, .string ⟨m.toArray⟩] 9) = w1 at *
  have hstr : (n == m) = false := by simpa using hne
  clear hne
  go_enter Try.func21, Try.ntmps21
  go_wp2_with fail
  refine KM.out.mono ?_
  rintro e w' ⟨rfl, k, rfl⟩
  clear hw1
  have c1 : ∀ j, (w1.drewN j).cell? ⟨b, 1, none⟩ = some (.map (some mb)) := fun j => (hA.out j).head.cell 1
  have hlook : ∀ j, (Instr.lookup 58 (.map (some mb)) (.string ⟨n.toArray⟩) false).run Try.prog (w1.drewN j) = .ok (.pointer (some ⟨x.blk, 0, none⟩)) (w1.drewN j) := fun j => by
    have := (hA.out j).look n hn 0
    rw [HG.out] at this
    exact this
  have hst := fun j => (hA.out j).map.store keyed Try.underlying58 hL (key_of m hm) (val := ptrV x.blk) (d := .held (ptrV x.blk)) (ps := []) rfl
  obtain ⟨W2, hW2⟩ := Classical.axiomOfChoice hst
  have hupd : ∀ j, (Instr.mapUpdate 58 (.map (some mb)) (.string ⟨m.toArray⟩) (.pointer (some ⟨x.blk, 0, none⟩))).run Try.prog (w1.drewN j) = .ok () (W2 j) := fun j => (hW2 j).1
  have HW2 := hide (fun j => (hW2 j).2)
  clear hst hW2
  have hdr := fun j => (HW2.out j).1.drop keyed Try.underlying58 (key_of n hn) 0
  obtain ⟨W3, hW3⟩ := Classical.axiomOfChoice hdr
  have hdel := fun j => (hW3 j).1
  have HW3 := hide (fun j => (hW3 j).2)
  have c2 : ∀ j, (W2 j).cell? ⟨b, 1, none⟩ = some (.map (some mb)) := fun j =>
    ((hA.out j).head.keep ((HW2.out j).2.grown.block b (hA.out j).head.lt fun e => map_not_cells (hA.out j).map (hA.out j).head (by injection e))).cell 1
  clear hdr hW3
  go_wp2_with fail
  go_region
  all_goals
    have c3 := c2 (k + 1)
    have hdel3 := hdel (k + 1)
    clear c2 hdel
    go_wp2_with fail
    go_ret
    refine ⟨rfl, k + 1, _, (HW2.out _).2, (HW3.out _).2, ?_⟩
    have := (HW3.out (k + 1)).1
    rw [enc_put, enc_del_map] at this
    exact this

end Go.Proofs.Ytbkenickmiapdaa
