/- DERIVED. Walks of package disk: Append. -/
import Derived.Test.YtbkenickmiapdaaDk7
import Derived.Deep.RegionHeld3
import Derived.IntWalk
namespace Go.Proofs.Ytbkenickmiapdaa
set_option linter.unusedVariables false
set_option linter.unusedSimpArgs false
open Go.RowKit

set_option maxHeartbeats 400000 in
/-- Append, where the name may not be. -/
theorem dk_append_no (b mb : Nat) (L : List (Nm × FB)) (lim : Int) (down : Bool) (n : Nm) (A : Option Addr) (ln c : Nat) (w : World) (h : DkAt w b mb L lim down) (hn : n.length ≤ maxLen) (E : Int) (hE : dMayV down false [n] (fGet n L).isSome = E) (h0 : (E != 0) = true) :
    Calls Try.prog 15 #[.pointer (some ⟨b, 0, none⟩), .string ⟨n.toArray⟩, .slice A ln c] w fun e w' => e = .returned (.int .i64 E) ∧ Below w.heap.size w w' := by
  have km := dk_may1 b mb L lim down false n w h hn
  rw [hE] at km
  have KM := hide km
  clear km h hE
  go_enter Try.func15, Try.ntmps15
  go_wp2_with fail
  refine KM.out.mono ?_
  rintro e w' ⟨rfl, k, rfl⟩
  go_wp2_with fail
  go_ret
  exact ⟨rfl, below_alloc_drewN _ _ _⟩

theorem slice_form {w : World} {base : Nat} {e : TypeId} {size : Nat} {v : Value} {n : Nat} {xs : List Value} (h : w.ownsRow base e size v n xs) : ∃ A c, v = .slice A n c ∧ (A = none → c = 0) := by
  rcases h.2 with ⟨h1, h2⟩ | ⟨g, cap, cur, h1, _⟩
  · exact ⟨none, 0, by rw [h1, h2], fun _ => rfl⟩
  · exact ⟨_, _, h1, fun h => by cases h⟩
theorem Reads.keepCells {w w' : World} {B size n : Nat} {A : Option Addr} {xs : List Value} (h : Reads w B size A n xs) (hk : ∀ p : Addr, p.block < B → (w.cell? p).isSome = true → w'.cell? p = w.cell? p) : Reads w' B size A n xs :=
  ⟨h.1, fun hn => by
    obtain ⟨ad, e, hb, hc⟩ := h.2 hn
    exact ⟨ad, e, hb, fun j u hu => (hk _ (by rw [block_of_add]; exact hb) (by rw [hc j u hu]; rfl)).trans (hc j u hu)⟩⟩
theorem map_no_cell {w : World} {mb n : Nat} {P : Program} {k : TypeId} {R : Value → Option (DataW Value × List MemPlace)} {D : DataW Value} (h : w.ownsMap P k R mb n D) {p : Addr} (e : p.block = mb) : w.cell? p = none := by
  obtain ⟨es, clock, h1, _⟩ := h
  unfold World.cell?
  rw [e, h1]

theorem DkAt.below {w w' : World} {b mb B : Nat} {L : List (Nm × FB)} {lim : Int} {down : Bool} (h : DkAt w b mb L lim down) (hB : Below w.heap.size w w') : DkAt w' b mb L lim down :=
  h.keep fun j hj => hB.block j (by
    rcases hj with rfl | rfl | ⟨p, hp, rfl | hr⟩
    · exact h.head.lt
    · exact h.map.lt
    · exact (h.files p hp).blk_lt
    · exact (h.files p hp).row_lt hr)

theorem dk_used_at {w wz : World} {b mb : Nat} {L : List (Nm × FB)} {lim : Int} {down : Bool} (h : DkAt w b mb L lim down) (hs : fSort L) (hn : ∀ p ∈ L, p.1.length ≤ maxLen) (hu : fbUsed L ≤ 4611686018427387904) (hB : Below w.heap.size w wz) :
    Calls Try.prog 20 #[.pointer (some ⟨b, 0, none⟩)] wz fun e w' => e = .returned (.int .i64 (fbUsed L)) ∧ w'.cell? ⟨b, 0, none⟩ = some (.int .i64 lim) ∧ Below w.heap.size w w' := by
  refine (dk_used b mb L lim down wz (h.below (B := 0) hB) hs hn hu).mono fun e w' ⟨he, hB'⟩ => ?_
  have hB2 := hB.trans (hB'.mono hB.size)
  exact ⟨he, (h.below (B := 0) hB2).head.cell 0, hB2⟩

set_option maxRecDepth 100000 in
set_option maxHeartbeats 1000000 in
theorem dk_append_full (b mb : Nat) (L : List (Nm × FB)) (lim : Int) (down : Bool) (n : Nm) (A : Option Addr) (ln c : Nat) (w : World) (h : DkAt w b mb L lim down) (hn : n.length ≤ maxLen) (hs : fSort L) (hns : ∀ p ∈ L, p.1.length ≤ maxLen) (hu : fbUsed L ≤ 4611686018427387904) (hl0 : 0 ≤ lim) (hl1 : lim ≤ 9223372036854775807)
    (hE : dMayV down false [n] (fGet n L).isSome = 0) (hfull : decide (lim - (fbUsed L : Int) < (ln : Int)) = true) :
    Calls Try.prog 15 #[.pointer (some ⟨b, 0, none⟩), .string ⟨n.toArray⟩, .slice A ln c] w fun e w' => e = .returned (.int .i64 5) ∧ Below w.heap.size w w' := by
  have km := dk_may1 b mb L lim down false n w h hn
  rw [hE] at km
  have KM := hide km
  have hA := hide (alloc_foot h (.cells #[.string ⟨n.toArray⟩] 9))
  have hwrap : IntKind.i64.wrap (lim - (fbUsed L : Int)) = lim - (fbUsed L : Int) := IntWalk.i64_in _ (by omega)
  have HB1 := hide (below_alloc_drewN w (.cells #[.string ⟨n.toArray⟩] 9))
  clear km h hE
  generalize hw1 : w.alloc (.cells #[.string ⟨n.toArray⟩] 9) = w1 at *
  go_enter Try.func15, Try.ntmps15
  go_wp2_with fail
  refine KM.out.mono ?_
  rintro e w' ⟨rfl, k, rfl⟩
  clear hw1
  have hAk := hA.out k
  have c0 : (w1.drewN k).cell? ⟨b, 0, none⟩ = some (.int .i64 lim) := hAk.head.cell 0
  have HU := hide fun wz hB => dk_used_at (wz := wz) hAk hs hns hu hB
  have HBk := HB1.out k
  clear hA hAk KM HB1
  generalize fbUsed L = U at *
  clear hs hns
  generalize w1.drewN k = w2 at *
  have hB0 := Below.refl w2.heap.size w2
  go_wp2_with fail
  go_region_held3 (fun w' => w'.cell? ⟨b, 0, none⟩ = some (.int .i64 lim) ∧ Below w2.heap.size w2 w') (first | exact ⟨by assumption, by assumption⟩ | exact ⟨by assumption, Below.drew (by assumption)⟩ | exact ⟨by first | assumption | simp [*], by first | assumption | exact Below.drew (by assumption) | simp [*]⟩ | go_keep) (first | (go_at_call 20; refine (HU.out _ (by first | assumption | exact Below.drew (by assumption))).mono ?_; rintro e w' ⟨rfl, hc', hB'⟩))
  all_goals
    go_wp2_with fail
    go_ret
    exact ⟨rfl, HBk.trans (hB'.mono HBk.size)⟩

/-- Behind an Append to a file that is there. -/
def AppOld (w : World) (f : FB) (x : List UInt8) (e : Ending) (w' : World) : Prop :=
  e = .returned (.int .i64 0) ∧ ∃ w1 sv w2 v, Below w.heap.size w w1 ∧ w1.ownsRow 0 5 1 sv f.f.b.length (f.f.b.map u8V) ∧ sv.ownBlock = f.row ∧ Blk w1 f.blk 64 #[sv, .int .i64 f.f.s] ∧
      w2.ownsRow 0 5 1 v (f.f.b ++ x).length ((f.f.b ++ x).map u8V) ∧ w1.grownBy w2 sv.ownBlock ∧ (v.ownBlock = sv.ownBlock ∨ v.ownBlock = some w1.heap.size) ∧ w' = w2.setCell ⟨f.blk, 0, none⟩ v
/-- Behind an Append to a file that was not there. -/
def AppNew (w : World) (mb : Nat) (n : Nm) (x : List UInt8) (L : List (Nm × FB)) (e : Ending) (w' : World) : Prop :=
  e = .returned (.int .i64 0) ∧ ∃ w1 w2 w3 v, Below w.heap.size w w1 ∧ (w1.alloc (.cells #[.slice none 0 0, .int .i64 0] 64)).mapTurned w2 mb ∧
      w2.ownsMap Try.prog 9 heldR mb (L.length + 1) (.map ((fPut n ⟨w1.heap.size, v.ownBlock, ⟨x, 0⟩⟩ L).map encF)) ∧ Blk w2 w1.heap.size 64 #[.slice none 0 0, .int .i64 0] ∧
      w3.ownsRow 0 5 1 v x.length (x.map u8V) ∧ w2.grownBy w3 none ∧ (v.ownBlock = none ∨ v.ownBlock = some w2.heap.size) ∧ w' = w3.setCell ⟨w1.heap.size, 0, none⟩ v

set_option maxRecDepth 100000 in
set_option maxHeartbeats 1000000 in
/-- Append to a file that is there. -/
theorem dk_append_old (b mb : Nat) (L : List (Nm × FB)) (lim : Int) (down : Bool) (n : Nm) (A : Option Addr) (c : Nat) (x : List UInt8) (f : FB) (w : World) (h : DkAt w b mb L lim down) (hn : n.length ≤ maxLen) (hs : fSort L) (hns : ∀ p ∈ L, p.1.length ≤ maxLen) (hu : fbUsed L ≤ 4611686018427387904) (hl0 : 0 ≤ lim) (hl1 : lim ≤ 9223372036854775807)
    (hE : dMayV down false [n] (fGet n L).isSome = 0) (hg : fGet n L = some f) (hr : Reads w w.heap.size 1 A x.length (x.map u8V)) (hxl : f.f.b.length + x.length ≤ 140737488355328) (hfull : decide (lim - (fbUsed L : Int) < (x.length : Int)) = false) :
    Calls Try.prog 15 #[.pointer (some ⟨b, 0, none⟩), .string ⟨n.toArray⟩, .slice A x.length c] w (AppOld w f x) := by
  have km := dk_may1 b mb L lim down false n w h hn
  rw [hE] at km
  have KM := hide km
  have hA := hide (alloc_foot h (.cells #[.string ⟨n.toArray⟩] 9))
  have hwrap : IntKind.i64.wrap (lim - (fbUsed L : Int)) = lim - (fbUsed L : Int) := IntWalk.i64_in _ (by omega)
  have HB1 := hide (below_alloc_drewN w (.cells #[.string ⟨n.toArray⟩] 9))
  have HG := hide hg
  have HR := hide hr
  clear km h hE hg hr
  generalize hw1 : w.alloc (.cells #[.string ⟨n.toArray⟩] 9) = w1 at *
  obtain ⟨ln, hlen⟩ : ∃ ln, x.length = ln := ⟨_, rfl⟩
  rw [hlen] at hfull ⊢
  go_enter Try.func15, Try.ntmps15
  go_wp2_with fail
  refine KM.out.mono ?_
  rintro e w' ⟨rfl, k, rfl⟩
  clear hw1
  have hAk := hA.out k
  have c0 : (w1.drewN k).cell? ⟨b, 0, none⟩ = some (.int .i64 lim) := hAk.head.cell 0
  have HA := hide hAk
  have HU := hide fun wz hB => dk_used_at (wz := wz) hAk hs hns hu hB
  have HBk := HB1.out k
  clear hA hAk KM HB1 hns
  generalize hU : fbUsed L = U at *
  clear hU
  generalize w1.drewN k = w2 at *
  have hB0 := Below.refl w2.heap.size w2
  go_wp2_with fail
  go_region_held3 (fun w' => w'.cell? ⟨b, 0, none⟩ = some (.int .i64 lim) ∧ Below w2.heap.size w2 w') (first | exact ⟨by assumption, by assumption⟩ | exact ⟨by assumption, Below.drew (by assumption)⟩ | exact ⟨by first | assumption | simp [*], by first | assumption | exact Below.drew (by assumption) | simp [*]⟩ | go_keep) (first | (go_at_call 20; refine (HU.out _ (by first | assumption | exact Below.drew (by assumption))).mono ?_; rintro e w' ⟨rfl, hc', hB'⟩))
  all_goals
    have hAz := HA.out.below (B := 0) hB'
    have c1 : w'.cell? ⟨b, 1, none⟩ = some (.map (some mb)) := hAz.head.cell 1
    have hlook : (Instr.lookup 58 (.map (some mb)) (.string ⟨n.toArray⟩) false).run Try.prog w' = .ok (.pointer (some ⟨f.blk, 0, none⟩)) w' := by
      have := hAz.look n hn 0
      rw [HG.out] at this
      exact this
    obtain ⟨sv, hb, hrow, hown⟩ := (hAz.files _ (fGet_mem HG.out)).ex
    obtain ⟨B, c', rfl⟩ : ∃ B c', sv = .slice B f.f.b.length c' := by
      rcases hrow.2 with ⟨h1, h2⟩ | ⟨g, cap, cur, h1, _⟩
      · exact ⟨none, 0, by rw [h1, h2]⟩
      · exact ⟨_, _, h1⟩
    have hBz := HBk.trans (hB'.mono HBk.size)
    have hrz : Reads w' w.heap.size 1 A x.length (x.map u8V) := HR.out.below hBz
    obtain ⟨v, w3, hrun, hown3, hgrow, hvb⟩ := run_append_u8 w' 0 22 _ _ hrow _ A c x hrz hxl (Nat.zero_le _)
    obtain ⟨A', c'', rfl, _⟩ := slice_form hown3
    rw [hlen] at hrun
    have d0 : w'.cell? ⟨f.blk, 0, none⟩ = some (.slice B f.f.b.length c') := hb.cell 0
    have hbne : f.row ≠ some f.blk := fun e => by
      obtain ⟨cs, hc⟩ := (hAz.files _ (fGet_mem HG.out)).row_is e
      exact hc.ne_ hb (by decide) rfl
    have hb3 : Blk w3 f.blk 64 #[.slice B f.f.b.length c', .int .i64 f.f.s] := hb.keep (hgrow.block _ hb.lt (by rw [hown]; exact hbne.symm))
    have d3 : w3.cell? ⟨f.blk, 0, none⟩ = some (.slice B f.f.b.length c') := hb3.cell 0
    have d4 : w3.frozen? ⟨f.blk, 0, none⟩ = false := hb3.frozen 0
    have HO := hide hown3
    have HW := hide hrow
    have HH := hide hb
    have HGR := hide hgrow
    have HV := hide hvb
    have HOW := hide hown
    clear hown3 hrow hb hgrow hvb hAz hb3 hown hbne HA HU HR hrz hlen
    go_wp2_with (at_builtin; refine wpList_append_run rfl _ _ _ rfl hrun ?_)
    go_ret
    exact ⟨rfl, w', _, w3, _, hBz, HW.out, HOW.out, HH.out, HO.out, HGR.out, HV.out, by rw [List.length_append]⟩

set_option maxRecDepth 100000 in
set_option maxHeartbeats 1000000 in
/-- Append to a file that was not there. -/
theorem dk_append_new (b mb : Nat) (L : List (Nm × FB)) (lim : Int) (down : Bool) (n : Nm) (A : Option Addr) (c : Nat) (x : List UInt8) (w : World) (h : DkAt w b mb L lim down) (hn : n.length ≤ maxLen) (hL : L.length < maxLen) (hs : fSort L) (hns : ∀ p ∈ L, p.1.length ≤ maxLen) (hu : fbUsed L ≤ 4611686018427387904) (hl0 : 0 ≤ lim) (hl1 : lim ≤ 9223372036854775807)
    (hE : dMayV down false [n] (fGet n L).isSome = 0) (hg : fGet n L = none) (hr : Reads w w.heap.size 1 A x.length (x.map u8V)) (hxl : x.length ≤ 140737488355328) (hfull : decide (lim - (fbUsed L : Int) < (x.length : Int)) = false) :
    Calls Try.prog 15 #[.pointer (some ⟨b, 0, none⟩), .string ⟨n.toArray⟩, .slice A x.length c] w (AppNew w mb n x L) := by
  have km := dk_may1 b mb L lim down false n w h hn
  rw [hE] at km
  have KM := hide km
  have hA := hide (alloc_foot h (.cells #[.string ⟨n.toArray⟩] 9))
  have hwrap : IntKind.i64.wrap (lim - (fbUsed L : Int)) = lim - (fbUsed L : Int) := IntWalk.i64_in _ (by omega)
  have HB1 := hide (below_alloc_drewN w (.cells #[.string ⟨n.toArray⟩] 9))
  have HG := hide hg
  have HR := hide hr
  clear km h hE hg hr
  generalize hw1 : w.alloc (.cells #[.string ⟨n.toArray⟩] 9) = w1 at *
  obtain ⟨ln, hlen⟩ : ∃ ln, x.length = ln := ⟨_, rfl⟩
  rw [hlen] at hfull ⊢
  go_enter Try.func15, Try.ntmps15
  go_wp2_with fail
  refine KM.out.mono ?_
  rintro e w' ⟨rfl, k, rfl⟩
  clear hw1
  have hAk := hA.out k
  have c0 : (w1.drewN k).cell? ⟨b, 0, none⟩ = some (.int .i64 lim) := hAk.head.cell 0
  have HA := hide hAk
  have HU := hide fun wz hB => dk_used_at (wz := wz) hAk hs hns hu hB
  have HBk := HB1.out k
  clear hA hAk KM HB1 hns
  generalize hU : fbUsed L = U at *
  clear hU
  generalize w1.drewN k = w2 at *
  have hB0 := Below.refl w2.heap.size w2
  go_wp2_with fail
  go_region_held3 (fun w' => w'.cell? ⟨b, 0, none⟩ = some (.int .i64 lim) ∧ Below w2.heap.size w2 w') (first | exact ⟨by assumption, by assumption⟩ | exact ⟨by assumption, Below.drew (by assumption)⟩ | exact ⟨by first | assumption | simp [*], by first | assumption | exact Below.drew (by assumption) | simp [*]⟩ | go_keep) (first | (go_at_call 20; refine (HU.out _ (by first | assumption | exact Below.drew (by assumption))).mono ?_; rintro e w' ⟨rfl, hc', hB'⟩))
  all_goals
    have hAz := HA.out.below (B := 0) hB'
    have c1 : w'.cell? ⟨b, 1, none⟩ = some (.map (some mb)) := hAz.head.cell 1
    have hlook : (Instr.lookup 58 (.map (some mb)) (.string ⟨n.toArray⟩) false).run Try.prog w' = .ok (.pointer none) w' := by
      have := hAz.look n hn 0
      rw [HG.out] at this
      exact this
    have hBz := HBk.trans (hB'.mono HBk.size)
    have hAy := alloc_foot hAz (.cells #[.slice none 0 0, .int .i64 0] 64) 0
    have c2 : (w'.alloc (.cells #[.slice none 0 0, .int .i64 0] 64)).cell? ⟨b, 1, none⟩ = some (.map (some mb)) := hAy.head.cell 1
    have hbn : Blk (w'.alloc (.cells #[.slice none 0 0, .int .i64 0] 64)) w'.heap.size 64 #[.slice none 0 0, .int .i64 0] := Blk.new _ _ _
    obtain ⟨w2, hupd, hm2, ht2⟩ := hAy.map.store keyed Try.underlying58 hL (key_of n hn) (val := ptrV w'.heap.size) (d := .held (ptrV w'.heap.size)) (ps := []) rfl
    replace hupd : (Instr.mapUpdate 58 (.map (some mb)) (.string ⟨n.toArray⟩) (.pointer (some ⟨w'.heap.size, 0, none⟩))).run Try.prog (w'.alloc (.cells #[.slice none 0 0, .int .i64 0] 64)) = .ok () w2 := hupd
    have hb2 : Blk w2 w'.heap.size 64 #[.slice none 0 0, .int .i64 0] := hbn.keep (ht2.grown.block _ hbn.lt fun e => map_not_cells hAy.map hbn (by injection e))
    have hmlt := hAz.map.lt
    have hrz : Reads w2 w.heap.size 1 A x.length (x.map u8V) := (HR.out.below hBz).keepCells fun p hp hc => World.cell?_of_block (w := w') ((ht2.grown.block _ (by simp; have := hBz.size; omega) (fun e => by
      injection e with e
      rw [map_no_cell hAz.map e] at hc
      cases hc)).trans (Below.heap_alloc _ _ _ (by have := hBz.size; omega)))
    obtain ⟨v, w3, hrun, hown3, hgrow, hvb⟩ := run_append_u8 w2 0 22 _ [] (World.ownsRow_nil _ _ _ _) _ A c x hrz (by simpa using hxl) (Nat.zero_le _)
    simp only [List.length_nil, List.nil_append] at hrun hown3
    obtain ⟨A', c'', rfl, _⟩ := slice_form hown3
    rw [hlen] at hrun
    have d0 : w2.cell? ⟨w'.heap.size, 0, none⟩ = some (.slice none 0 0) := hb2.cell 0
    have hb3 : Blk w3 w'.heap.size 64 #[.slice none 0 0, .int .i64 0] := hb2.keep (hgrow.block _ hb2.lt (by simp [Value.ownBlock]))
    have d3 : w3.cell? ⟨w'.heap.size, 0, none⟩ = some (.slice none 0 0) := hb3.cell 0
    have d4 : w3.frozen? ⟨w'.heap.size, 0, none⟩ = false := hb3.frozen 0
    have HM2 : Hid (w2.ownsMap Try.prog 9 heldR mb (L.length + 1) (.map ((fPut n ⟨w'.heap.size, Value.ownBlock (.slice A' x.length c''), ⟨x, 0⟩⟩ L).map encF))) := by
      rw [← enc_put]; exact hm2
    have HT2 := hide ht2
    have HO := hide hown3
    have HH := hide hb2
    have HGR := hide hgrow
    have HV := hide hvb
    clear hown3 hgrow hvb hAz hAy hb3 HA HU HR hrz hm2 ht2 hb2 hbn hmlt
    go_wp2_with (at_builtin; refine wpList_append_run rfl _ _ _ rfl hrun ?_)
    go_ret
    exact ⟨rfl, w', w2, w3, _, hBz, HT2.out, HM2.out, HH.out, HO.out, HGR.out, HV.out, by rw [hlen]⟩
end Go.Proofs.Ytbkenickmiapdaa
