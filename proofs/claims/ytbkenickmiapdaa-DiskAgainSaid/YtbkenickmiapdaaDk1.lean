/- DERIVED. Walks of package disk: may, New, Down, Start. -/
import Derived.Test.YtbkenickmiapdaaDkw
import Derived.Carry
namespace Go.Proofs.Ytbkenickmiapdaa
set_option linter.unusedVariables false
set_option linter.unusedSimpArgs false
open Go.RowKit

/-- Behind a call: its answer, the disk; nothing but its own blocks, and new ones, has turned. -/
def DkPost (w : World) (S : Foot) (b : Nat) (r : Value) (d : DS) (e : Ending) (w' : World) : Prop :=
  e = .returned r ∧ ∃ S' : Foot, Dk w' S' b d ∧ Mod S w w' ∧ ∀ k, S' k → S k ∨ w.heap.size ≤ k

theorem FileAt.keep {w w' : World} {x : FB} (h : FileAt w x) (hb : w'.heap[x.blk]? = w.heap[x.blk]?) (hr : ∀ g, x.row = some g → w'.heap[g]? = w.heap[g]?) : FileAt w' x := by
  obtain ⟨sv, h1, h2, h3⟩ := h
  refine ⟨sv, h1.keep hb, ⟨h2.1, ?_⟩, h3⟩
  rcases h2.2 with h0 | ⟨g, cap, cur, hv, hg, hh, hrest⟩
  · exact .inl h0
  · refine .inr ⟨g, cap, cur, hv, hg, ?_, hrest⟩
    rw [hr g (by rw [← h3, hv]; rfl)]; exact hh
theorem ownsMap_keep {w w' : World} {P : Program} {k : TypeId} {R : Value → Option (DataW Value × List MemPlace)} {b n : Nat} {D : DataW Value} (h : w.ownsMap P k R b n D) (hb : w'.heap[b]? = w.heap[b]?) : w'.ownsMap P k R b n D := by
  obtain ⟨es, clock, h1, h2⟩ := h
  exact ⟨es, clock, hb.trans h1, h2⟩
theorem DkAt.keep {w w' : World} {b mb : Nat} {L : List (Nm × FB)} {lim : Int} {down : Bool} (h : DkAt w b mb L lim down) (hk : ∀ k, dkFoot b mb L k → w'.heap[k]? = w.heap[k]?) : DkAt w' b mb L lim down :=
  ⟨h.head.keep (hk _ (.inl rfl)), ownsMap_keep h.map (hk _ (.inr (.inl rfl))), fun p hp => (h.files p hp).keep (hk _ (.inr (.inr ⟨p, hp, .inl rfl⟩))) fun g hg => hk _ (.inr (.inr ⟨p, hp, .inr hg⟩)), h.apart, h.rows⟩
theorem Dk.keep {w w' : World} {S : Foot} {b : Nat} {d : DS} (h : Dk w S b d) (hk : ∀ k, S k → w'.heap[k]? = w.heap[k]?) : Dk w' S b d := by
  obtain ⟨mb, L, h1, h2, h3, h4⟩ := h
  exact ⟨mb, L, h1.keep fun k hf => hk k (h3 k hf), h2, h3, fun k hs => lt_of_same (hk k hs) (h4 k hs)⟩
theorem Dk.drewN {w : World} {S : Foot} {b : Nat} {d : DS} (h : Dk w S b d) (n : Nat) : Dk (w.drewN n) S b d := h.keep fun _ _ => rfl
theorem DkPost.same {w w' : World} {S : Foot} {b : Nat} {r : Value} {d : DS} {e : Ending} (h : Dk w S b d) (he : e = .returned r) (hm : Below w.heap.size w w') : DkPost w S b r d e w' := by
  refine ⟨he, S, ?_, Mod.of_below hm S, fun k hk => .inl hk⟩
  obtain ⟨mb, L, h1, h2, h3, h4⟩ := h
  exact ⟨mb, L, h1.keep fun k hf => hm.block k (h4 k (h3 k hf)), h2, h3, fun k hs => Nat.lt_of_lt_of_le (h4 k hs) hm.size⟩

set_option maxHeartbeats 400000 in
theorem dk_down (b mb : Nat) (L : List (Nm × FB)) (lim : Int) (down : Bool) (w : World) (h : DkAt w b mb L lim down) :
    Calls Try.prog 29 #[.pointer (some ⟨b, 0, none⟩)] w fun e w' => e = .returned (.bool down) ∧ w' = w := by
  have h2 : w.cell? ⟨b, 2, none⟩ = some (.bool down) := h.head.cell 2
  clear h
  go_enter Try.func29, Try.ntmps29
  go_wp2
  go_ret
  exact ⟨rfl, rfl⟩
set_option maxHeartbeats 400000 in
theorem dk_start (b mb : Nat) (L : List (Nm × FB)) (lim : Int) (down : Bool) (w : World) (h : DkAt w b mb L lim down) :
    Calls Try.prog 18 #[.pointer (some ⟨b, 0, none⟩)] w fun e w' => e = .returned (.tuple #[]) ∧ w' = w.setCell ⟨b, 2, none⟩ (.bool false) := by
  have h2 : w.cell? ⟨b, 2, none⟩ = some (.bool down) := h.head.cell 2
  have hf : w.frozen? ⟨b, 2, none⟩ = false := h.head.frozen 2
  clear h
  go_enter Try.func18, Try.ntmps18
  go_wp2
  go_end0
  exact ⟨rfl, rfl⟩
set_option maxHeartbeats 400000 in
theorem dk_new (lim : Int) (w : World) :
    Calls Try.prog 14 #[.int .i64 lim] w fun e w' => e = .returned (.pointer (some ⟨w.heap.size + 1, 0, none⟩)) ∧
      w' = (w.alloc (.map #[] 0)).alloc (.cells #[.int .i64 (if lim < 0 then 0 else lim), .map (some w.heap.size), .bool false] 60) := by
  have hmm := @run_makeMap Try.prog
  go_enter Try.func14, Try.ntmps14
  go_wp2
  all_goals
    go_ret
    exact ⟨rfl, rfl⟩

/-- 'may', of one or two names. -/
def dMayV (down there : Bool) (ns : List Nm) (hasit : Bool) : Int := if down then 7 else if ns.any nmBad then 1 else if there && !hasit then 6 else 0

set_option maxHeartbeats 1000000 in
theorem dk_may (b mb nb c : Nat) (L : List (Nm × FB)) (lim : Int) (down there : Bool) (n : Nm) (ns : List Nm) (w : World) (h : DkAt w b mb L lim down) (hl : ns.length ≤ 10) (hn : ∀ m ∈ n :: ns, m.length ≤ maxLen) (ht : TextsAt w nb (n :: ns)) :
    Calls Try.prog 33 #[.pointer (some ⟨b, 0, none⟩), .bool there, .slice (some ⟨nb, 0, none⟩) (n :: ns).length c] w fun e w' => e = .returned (.int .i64 (dMayV down there (n :: ns) (fGet n L).isSome)) ∧ ∃ k, w' = w.drewN k := by
  have h1 : w.cell? ⟨b, 1, none⟩ = some (.map (some mb)) := h.head.cell 1
  have h2 : w.cell? ⟨b, 2, none⟩ = some (.bool down) := h.head.cell 2
  have hn0 : w.cell? ⟨nb, 0, none⟩ = some (.string ⟨n.toArray⟩) := ht 0 (by simp)
  have kc := dk_contains nb c (n :: ns) w (by simp; omega) hn ht
  have hlook := h.look n (hn n (by simp))
  have hpos : 0 < (n :: ns).length := by simp
  generalize hlen : (n :: ns).length = len at *
  generalize hbad : (n :: ns).any nmBad = bad at *
  have HF : Hid (dMayV down there (n :: ns) (fGet n L).isSome = if down then 7 else if bad then 1 else if there && !(fGet n L).isSome then 6 else 0) := by unfold dMayV; rw [hbad]; exact rfl
  clear hbad hn ht h hlen
  have KC := hide kc
  clear kc
  have hlen2 : (0 : Int) < (len : Int) := by omega
  cases down with
  | true =>
    go_enter Try.func33, Try.ntmps33
    go_wp2_with fail
    go_ret
    exact ⟨by rw [HF.out]; rfl, 0, rfl⟩
  | false =>
    cases bad with
    | true =>
      go_enter Try.func33, Try.ntmps33
      go_wp2_with fail
      refine KC.out.mono ?_
      rintro e w' ⟨rfl, rfl⟩
      go_wp2_with fail
      go_ret
      exact ⟨by rw [HF.out]; rfl, 0, rfl⟩
    | false =>
      cases there with
      | false =>
        go_enter Try.func33, Try.ntmps33
        go_wp2_with fail
        refine KC.out.mono ?_
        rintro e w' ⟨rfl, rfl⟩
        go_wp2_with fail
        go_quiet (fail)
        go_wp2_with fail
        go_ret
        exact ⟨by rw [HF.out]; rfl, _, rfl⟩
      | true =>
        cases hg : fGet n L with
        | none =>
          rw [hg] at hlook HF
          replace hlook : ∀ k, (Instr.lookup 58 (.map (some mb)) (.string ⟨n.toArray⟩) false).run Try.prog (w.drewN k) = .ok (.pointer none) (w.drewN k) := hlook
          go_enter Try.func33, Try.ntmps33
          go_wp2_with fail
          refine KC.out.mono ?_
          rintro e w' ⟨rfl, rfl⟩
          go_wp2_with fail
          go_quiet (fail)
          go_wp2_with fail
          go_ret
          exact ⟨by rw [HF.out]; rfl, _, rfl⟩
        | some x =>
          rw [hg] at hlook HF
          replace hlook : ∀ k, (Instr.lookup 58 (.map (some mb)) (.string ⟨n.toArray⟩) false).run Try.prog (w.drewN k) = .ok (.pointer (some ⟨x.blk, 0, none⟩)) (w.drewN k) := hlook
          go_enter Try.func33, Try.ntmps33
          go_wp2_with fail
          refine KC.out.mono ?_
          rintro e w' ⟨rfl, rfl⟩
          go_wp2_with fail
          go_quiet (fail)
          go_wp2_with fail
          go_ret
          exact ⟨by rw [HF.out]; rfl, _, rfl⟩
end Go.Proofs.Ytbkenickmiapdaa
