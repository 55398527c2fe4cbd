/- DERIVED. Package disk: names, and the function that it hands back: a contract of an iterator whose loop body may turn blocks of S. -/
import Derived.Test.YtbkenickmiapdaaSrt
import Derived.Test.YtbkenickmiapdaaDk9
import Derived.RangeFuncNested
import Derived.RangeFuncBound
import Derived.RangeFuncCalls
import Derived.RangeFuncLeaves
import Derived.Shelf.Abstract
import Derived.Shelf.RegionOpen
import Derived.OwnWalkIn
import Derived.TacticsInMore
import Derived.LoopNIn
import Derived.LoopIn
namespace Go.Proofs.Ytbkenickmiapdaa
set_option linter.unusedVariables false
set_option linter.unusedSimpArgs false
open Go.RowKit Go.Shelf
attribute [local go_sem] Oper.semAt_some

/-- What a round may turn: cells of S alone. -/
def KpS (S : Foot) (W W' : World) : Prop := W.heap.size ≤ W'.heap.size ∧ ∀ (k : Nat) (cs : Array Value) (t : TypeId) (z : Nat × Nat), ¬ S k → W.heap[k]? = some (.cells cs t z) → W'.heap[k]? = some (.cells cs t z)
theorem KpS.trans {S : Foot} {A B C : World} (h : KpS S A B) (k : KpS S B C) : KpS S A C := ⟨Nat.le_trans h.1 k.1, fun i cs t z hS hi => k.2 i cs t z hS (h.2 i cs t z hS hi)⟩
theorem KpS.book {S : Foot} {w : World} (W : World) (l : Nat) (o o' : Obj) (_ : w.heap.size ≤ l) (h : W.heap[l]? = some o) (hc : o.isCells = false) (_ : o.isWalk = false) : KpS S W (W.putObj l o') :=
  ⟨by simp, fun k cs t z _ hk => (World.putObj_heap_other (fun e => by subst e; rw [h] at hk; injection hk with hk; subst hk; cases hc)).trans hk⟩
theorem KpS.of_mod {S : Foot} {W W' : World} (h : Mod S W W') : KpS S W W' :=
  ⟨h.size, fun k cs t z hS hk => (h.block k (Array.getElem?_eq_some_iff.1 hk).1 hS).trans hk⟩

abbrev NmOf (L : List (Nm × FB)) := { m : Nm // m ∈ L.map (·.1) }

theorem strKeys_enc (L : List (Nm × FB)) : Go.strKeys (DataW.map (L.map encF)) = L.map (·.1) := by
  show (L.map encF).map (fun p => strOf p.1) = _
  rw [List.map_map]
  rfl

theorem sorted_dk {w : World} {b mb : Nat} {L : List (Nm × FB)} {lim : Int} {down : Bool} (h : DkAt w b mb L lim down) (hs : fSort L) (hl : L.length ≤ 1000000) :
    Calls Try.prog 48 #[.func (.func 54) #[] #[.pointer (some ⟨w.heap.size, 0, none⟩)]] (w.alloc (.cells #[.map (some mb)] 58)) fun e w' =>
      ∃ v, e = .returned v ∧ w'.ownsRow (w.heap.size + 1) 9 1 v L.length ((L.map (·.1)).map strV) ∧ Below (w.heap.size + 1) (w.alloc (.cells #[.map (some mb)] 58)) w' := by
  have hsz : Maps.size (DataW.map (L.map encF)) = L.length := by
    show (L.map encF).length = _
    simp
  refine (sorted_at mb L.length _ heldR w h.map (by rw [hsz]; simp only [maxLen]; omega) (by rw [hsz]; omega)).mono ?_
  rintro e w' ⟨v, ss, he, hS, hrow, hB⟩
  rw [strKeys_enc] at hS
  have hn := sorted_names hS hs.names
  have hlen : ss.length = L.length := by rw [hS.length_eq]; simp
  rw [hn, hlen] at hrow
  simp only [World.size_alloc] at hrow hB
  exact ⟨v, he, hrow, hB⟩

set_option maxHeartbeats 400000 in
theorem dk_names (b : Nat) (w : World) : Calls Try.prog 34 #[.pointer (some ⟨b, 0, none⟩)] w fun e w' => e = .returned (.func (.func 47) #[] #[.pointer (some ⟨w.heap.size, 0, none⟩)]) ∧ w' = w.alloc (.cells #[.pointer (some ⟨b, 0, none⟩)] 26) := by
  go_enter Try.func34, Try.ntmps34
  go_wp2
  go_ret
  exact ⟨rfl, rfl⟩

set_option maxRecDepth 100000 in
set_option maxHeartbeats 2000000 in
theorem names1_in (n : Nat) (hn : 1 ≤ n) (l b mb Bn : Nat) (L : List (Nm × FB)) (lim : Int) (down : Bool) (Kp : World → World → Prop) (Safe : World → Nat → Prop) (J Jx : List (NmOf L) → World → Prop) (W : World) (hJ : AbidesFrom W.heap.size J)
    (hKS : ∀ (W1 W' : World) (g : Nat) (cs : Array Value) (t : TypeId) (z : Nat × Nat), Kp W1 W' → Safe W1 g → W1.heap[g]? = some (.cells cs t z) → W'.heap[g]? = some (.cells cs t z) ∧ Safe W' g) (hS : ∀ (g : Nat) (w2 : World), W.heap.size ≤ g → Below W.heap.size W w2 → Safe w2 g)
    (hY : ∀ pre (x : NmOf L) W1, J pre W1 → pre.length < L.length → YieldAt Fence.wide (n - 1) Try.prog l #[.string ⟨x.1.toArray⟩] W1 fun e W' =>
      (e = .returned (.bool true) ∧ J (pre ++ [x]) W' ∧ Kp W1 W') ∨ (e = .returned (.bool false) ∧ Jx (pre ++ [x]) W'))
    (hBn : W.cell? ⟨Bn, 0, none⟩ = some (.pointer (some ⟨b, 0, none⟩))) (hA : DkAt W b mb L lim down) (hs : fSort L) (hl : L.length ≤ 1000000) (h0 : J [] W) :
    CallsIn Fence.wide n Try.prog 47 #[.func (.yield l) #[] #[], .pointer (some ⟨Bn, 0, none⟩)] W fun e W' => (∃ v, e = .returned v) ∧
      ((∃ xs, xs.map (·.1) = L.map (·.1) ∧ J xs W') ∨ (∃ pre, True ∧ Jx pre W')) := by
  have hfK : Fence.wide.fn 49 := trivial
  have hfS : Fence.wide.fn 48 := trivial
  have hm : W.cell? ⟨b, 1, none⟩ = some (.map (some mb)) := hA.head.cell 1
  have KS := hide (sorted_dk hA hs hl)
  have hJ1 : J [] (W.alloc (.cells #[.map (some mb)] 58)) := hJ _ _ _ none h0 (World.grownBy_alloc W _ none) (fun r e => by cases e)
  have HJ1 := hide hJ1
  have HJ := hide hJ
  have HY := hide hY
  have HS := hide hS
  clear hA hJ1 h0 hJ hY hS hs
  refine callsIn_of_wp Try.func47 rfl trivial ?_ rfl
  simp only [Try.ntmps47, List.size_toArray, List.length_cons, List.length_nil, Nat.reduceAdd, Nat.reduceSub, Array.replicate_succ, Array.replicate_zero, List.push_toArray, List.append_toArray, List.nil_append, List.cons_append]
  gi_wp2_with (first
    | (gi_at_call 49; refine (callsIn_wide.2 (keys_at _ _)).mono ?_; rintro e w' ⟨rfl, rfl⟩)
    | (gi_at_call 48; refine (callsIn_wide.2 KS.out).mono ?_; rintro e w2 ⟨v, rfl, hrow, hB⟩; obtain ⟨A, c, rfl, hAc⟩ := slice_form hrow))
  have HS2 : Hid (J [] w2) := by
    refine HJ.out _ _ _ none HJ1.out ⟨hB.os, hB.tape, hB.output, hB.size, fun k hk _ => hB.block k (by simpa using hk)⟩ (fun r e => by cases e)
  rcases hrow.2 with ⟨h1, h2⟩ | ⟨g, cap, cur, h1, hg, hcells, _, _, _, htake⟩
  · obtain ⟨rfl, _, rfl⟩ : A = none ∧ L.length = 0 ∧ c = 0 := by
      injection h1 with h1 h3 h4
      exact ⟨h1, h2, h4⟩
    have HL := hide h2
    clear hrow h1 hB hAc
    rw [h2]
    clear h2
    gi_loopw [12] (fun i wr => i = .int .i64 0 ∧ Hid (J [] wr)) (fun _ _ => 0)
    case atStart => exact ⟨rfl, HS2⟩
    case round =>
      obtain ⟨rfl, hJs⟩ := hrel
      gi_wp2
      go_end0
      refine ⟨⟨_, rfl⟩, .inl ⟨[], ?_, hJs.out⟩⟩
      rw [List.eq_nil_of_length_eq_zero HL.out]; rfl
  · obtain ⟨rfl, rfl⟩ : A = some ⟨g, 0, none⟩ ∧ c = cap := by
      injection h1 with h1 h3 h4
      exact ⟨h1, h4⟩
    have HSAFE := hide (HS.out g w2 (by omega) (((Below.refl _ W).alloc (Nat.le_refl _) _).trans (hB.mono (by omega))))
    have HKS := hide hKS
    have HC := hide hcells
    have hcell : ∀ (k : Nat) (h : k < L.length), cur[k]? = some (.string ⟨(L[k]).1.toArray⟩) := by
      intro k hk
      have e1 : (cur.toList.take (L.length * 1))[k]? = ((L.map (·.1)).map strV)[k]? := by rw [htake]
      rw [List.getElem?_take] at e1
      simp [hk] at e1
      exact e1
    have HCL := hide hcell
    clear hrow h1 hB hAc hcells htake hKS hcell hg
    gi_loopw [12] (fun i wr => ∃ k : Nat, i = .int .i64 k ∧ k ≤ L.length ∧ Hid (J ((L.map (·.1)).attach.take k) wr) ∧ Hid (wr.heap[g]? = some (.cells cur 9 (0, 0)) ∧ Safe wr g)) (fun i _ => L.length - (intOf i).toNat)
    case atStart => exact ⟨0, rfl, Nat.zero_le _, HS2, HC.out, HSAFE.out⟩
    case round =>
      obtain ⟨k, rfl, hk, hJs, hh⟩ := hrel
      by_cases hlt : k < L.length
      · have hx : ∃ x : NmOf L, (L.map (·.1)).attach.take (k + 1) = (L.map (·.1)).attach.take k ++ [x] ∧ x.1 = L[k].1 := by
          have hla : k < (L.map (·.1)).attach.length := by simpa using hlt
          refine ⟨(L.map (·.1)).attach[k], List.take_succ_eq_append_getElem hla, ?_⟩
          simp
        obtain ⟨x, hx1, hx2⟩ := hx
        have hcx : wr.cell? ⟨g, k, none⟩ = some (.string ⟨x.1.toArray⟩) := by
          rw [cell_of_row wr g k cur _ (0, 0) hh.out.1, hx2]
          exact HCL.out k hlt
        have HX := hide hx1
        obtain ⟨fn, tmps, assign, body, hy, hR⟩ := HY.out _ x wr hJs.out (by simp; omega)
        have hRR := hide hR
        clear hx1 hx2 hR
        gi_wp2
        refine hRR.out.mono ?_
        rintro e W3 (⟨rfl, hJ3, hk3⟩ | ⟨rfl, hJx3⟩)
        · rw [← HX.out] at hJ3
          have HJ3 := hide hJ3
          have hh3 : Hid (W3.heap[g]? = some (.cells cur 9 (0, 0)) ∧ Safe W3 g) := HKS.out _ _ _ _ _ _ hk3 hh.out.2 hh.out.1
          clear hJ3 hk3
          gi_wp2
          go_roundw
          case rel => exact ⟨k + 1, by go_num, by omega, HJ3, hh3⟩
          case measure => simp [intOf]; omega
        · gi_wp2
          refine bodyPost_ret (results_none rfl _ _ _) rfl ?_
          exact ⟨⟨_, rfl⟩, .inr ⟨_, trivial, hJx3⟩⟩
      · obtain rfl : k = L.length := by omega
        gi_wp2
        go_end0
        refine ⟨⟨_, rfl⟩, .inl ⟨_, ?_, hJs.out⟩⟩
        rw [List.take_of_length_le (by simp), List.attach_map_subtype_val]

theorem names_stops {W : World} {b mb : Nat} {lim : Int} {L : List (Nm × FB)} {down : Bool} {Bn : Nat} (n : Nat) (hn : 1 ≤ n) (Kp : World → World → Prop) (Safe : World → Nat → Prop)
    (hKS : ∀ (W1 W' : World) (g : Nat) (cs : Array Value) (t : TypeId) (z : Nat × Nat), Kp W1 W' → Safe W1 g → W1.heap[g]? = some (.cells cs t z) → W'.heap[g]? = some (.cells cs t z) ∧ Safe W' g)
    (hS : ∀ W', Below W.heap.size W W' → ∀ (g : Nat) (w2 : World), W'.heap.size ≤ g → Below W'.heap.size W' w2 → Safe w2 g) (hBn : W.cell? ⟨Bn, 0, none⟩ = some (.pointer (some ⟨b, 0, none⟩))) (hBl : Bn < W.heap.size) (hA : DkAt W b mb L lim down) (hs : fSort L) (hl : L.length ≤ 1000000) :
    SeqStopsK Fence.wide n Try.prog 47 #[.pointer (some ⟨Bn, 0, none⟩)] (fun x : NmOf L => #[.string ⟨x.1.toArray⟩]) Kp (fun xs => xs.map (·.1) = L.map (·.1)) (fun _ => True) L.length W := fun l J Jx W' hB hJ _ hY h0 =>
  names1_in n hn l b mb Bn L lim down Kp Safe J Jx W' hJ hKS (hS W' hB) hY ((hB.cell hBl).trans hBn) (hA.below (B := 0) hB) hs hl h0
end Go.Proofs.Ytbkenickmiapdaa
