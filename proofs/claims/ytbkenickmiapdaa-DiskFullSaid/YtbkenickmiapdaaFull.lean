/- DERIVED. 'tidemarklaw03.DiskFull' returns true at every input: the walk. -/
import Derived.Test.YtbkenickmiapdaaBys
import Derived.Deep.DeepCutAuto
import Derived.Deep.CutBlock
import Derived.IntWalk
namespace Go.Proofs.Ytbkenickmiapdaa
set_option linter.unusedVariables false
set_option linter.unusedSimpArgs false
open Go.RowKit

/-- Behind k rounds: used bytes u. -/
def FuRel (w : World) (b nb : Nat) (lim : Int) (k : Nat) (u : Int) (wr : World) : Prop :=
  ∃ d, DkB w wr (fun j => j = nb) b d ∧ DFit d k (100 * k) ∧ d.down = false ∧ d.lim = lim ∧ u = (dUsed d.l : Nat) ∧ Blk wr nb 9 #[.string ⟨#[97]⟩, .string ⟨#[98]⟩, .string ⟨#[99]⟩]

theorem full_e {d : DS} {n : Nm} {x : List UInt8} (hd : d.down = false) (hn : nmBad n = false) : dAppendE d n x = if d.lim - (dUsed d.l : Int) < x.length then 5 else 0 := by
  have hm : dMay d false n n = 0 := by unfold dMay; rw [hd, hn]; rfl
  unfold dAppendE
  rw [if_pos hm]
/-- What Read gives where the name is good: the bytes, or none. -/
theorem full_read {d : DS} {n : Nm} (hd : d.down = false) (hn : nmBad n = false) : dReadB d n = (dOld n d.l).b := by
  unfold dReadB dMay
  rw [hd, hn]
  cases hg : fGet n d.l with
  | none => simp [dOld, hg]
  | some f => simp
theorem full_used {d : DS} {n : Nm} {x : List UInt8} (hs : fSort d.l) (h0 : dAppendE d n x = 0) : dUsed (dAppend d n x).l = dUsed d.l + x.length ∧ (dOld n (dAppend d n x).l).b = (dOld n d.l).b ++ x ∧ (dAppend d n x).down = d.down ∧ (dAppend d n x).lim = d.lim := by
  unfold dAppend
  rw [if_pos h0]
  refine ⟨?_, ?_, rfl, rfl⟩
  · show dUsed (fPut n _ d.l) = _
    rw [used_put]
    simp only [List.length_append]
    unfold dOld
    cases hg : fGet n d.l with
    | none => rw [del_none (fGet_none hg)]; simp; omega
    | some f => rw [used_del hs hg]; simp; omega
  · unfold dOld
    show ((fGet n (fPut n _ d.l)).getD ⟨[], 0⟩).b = _
    rw [fGet_put_same hs]
    rfl
theorem full_same {d : DS} {n : Nm} {x : List UInt8} (h0 : dAppendE d n x ≠ 0) : dAppend d n x = d := by
  unfold dAppend
  rw [if_neg h0]

theorem Reads.lit_addr {w : World} {B n : Nat} {A : Option Addr} {xs : List Value} (h : Reads w B 1 A n xs) (hn : 0 < n) : ∃ g o, A = some ⟨g, o, none⟩ ∧ g < B ∧ ∀ (j : Nat) (u : Value), xs[j]? = some u → w.cell? ⟨g, o + j, none⟩ = some u := by
  obtain ⟨ad, e, hb, hc⟩ := h.2 hn
  obtain ⟨g, o, s⟩ := ad
  have hl := h.1
  have h0 : xs[0]? = some (xs[0]'(by omega)) := List.getElem?_eq_getElem (by omega)
  have hs : s = none := by
    have := hc 0 _ h0
    simpa [Addr.add] using World.cell?_spot this
  subst hs
  exact ⟨g, o, e, hb, fun j u hu => by have := hc j u hu; rwa [addr_add] at this⟩
theorem ownsRow_stay {w w' : World} {B0 : Nat} {e : TypeId} {v : Value} {n : Nat} {xs : List Value} (h : w.ownsRow B0 e 1 v n xs) (hk : ∀ g, B0 ≤ g → g < w.heap.size → w'.heap[g]? = w.heap[g]?) : w'.ownsRow B0 e 1 v n xs := by
  refine ⟨h.1, ?_⟩
  rcases h.2 with h0 | ⟨g, cap, cur, hv, hg, hh, rest⟩
  · exact .inl h0
  · exact .inr ⟨g, cap, cur, hv, hg, (hk g hg (Array.getElem?_eq_some_iff.1 hh).1).trans hh, rest⟩
theorem full_names {w : World} {nb j : Nat} (h : Blk w nb 9 #[.string ⟨#[97]⟩, .string ⟨#[98]⟩, .string ⟨#[99]⟩]) (hj : j < 3) : ∃ nm : Nm, w.cell? ⟨nb, j, none⟩ = some (.string ⟨nm.toArray⟩) ∧ nmBad nm = false ∧ nm.length ≤ maxLen := by
  have : j = 0 ∨ j = 1 ∨ j = 2 := by omega
  rcases this with rfl | rfl | rfl
  · exact ⟨[97], h.cell 0, rfl, by simp [maxLen]⟩
  · exact ⟨[98], h.cell 1, rfl, by simp [maxLen]⟩
  · exact ⟨[99], h.cell 2, rfl, by simp [maxLen]⟩

set_option maxRecDepth 100000 in
set_option maxHeartbeats 4000000 in
theorem full_walk (limit : Int) (A : Option Addr) (ls : List BS) (c : Nat) (Aw : Option Addr) (lw : List UInt8) (cw : Nat) (w : World) (hb0 : -9223372036854775808 ≤ limit) (hb1 : limit ≤ 9223372036854775807) (hl : RowsIn2 w A ls) (hll : ls.length ≤ maxLen) (hw : Reads w w.heap.size 1 Aw lw.length (lw.map u8V)) (hwl : lw.length ≤ maxLen) :
    Calls Try.prog 4 #[.int .i64 limit, .slice A ls.length c, .slice Aw lw.length cw] w fun e w' => e = .returned (.bool true) ∧ Below w.heap.size w w' := by
  obtain ⟨lim, hlim⟩ : ∃ lim, limit.tmod 301 = lim := ⟨_, rfl⟩
  have hlim1 : -300 ≤ lim ∧ lim ≤ 300 := by
    have := Int.tmod_lt_of_pos limit (show (0 : Int) < 301 by omega)
    have := Int.lt_tmod_of_pos limit (show (0 : Int) < 301 by omega)
    omega
  have hwr : IntKind.i64.wrap lim = lim := IntWalk.i64_in _ (by omega)
  go_enter Try.func4, Try.ntmps4
  go_wp2_with fail
  refine (dk_shown w).mono ?_
  rintro e w1 ⟨rfl, hb1⟩
  go_wp2_with fail
  refine (dkb_new w w1 Foot.none lim no_T hb1).mono ?_
  rintro e w2 ⟨b, rfl, h2, t2⟩
  have f2 : DFit ⟨if lim < 0 then 0 else lim, [], false⟩ 0 0 := DFit.new lim (by omega)
  go_wp2_with fail
  have hrel0 : Hid (FuRel w b w2.heap.size (if lim < 0 then 0 else lim) 0 0 (w2.alloc (.cells #[.string ⟨#[97]⟩, .string ⟨#[98]⟩, .string ⟨#[99]⟩] 9))) :=
    ⟨_, (h2.foot fun k hk => .inr (.inr (by omega))).alloc _, f2, rfl, rfl, rfl, Blk.new _ _ _⟩
  generalize hnb : w2.heap.size = nb at *
  clear hnb h2 t2 f2 hb1
  have HL := hide hl
  have HW := hide hw
  clear hl hw
  go_loopw [10, 11] (fun t i wr => ∃ (k : Nat) (u : Int), t = .int .i64 u ∧ i = .int .i64 k ∧ k ≤ 40 ∧ Hid (FuRel w b nb (if lim < 0 then 0 else lim) k u wr)) (fun _ i _ => 40 - (intOf i).toNat)
  case atStart => exact ⟨0, 0, rfl, rfl, by omega, hrel0⟩
  case round =>
    obtain ⟨k, u, rfl, rfl, hk40, hR⟩ := hrel
    clear hrel0
    by_cases hk : k < ls.length
    · by_cases hk4 : k < 40
      · obtain ⟨g, o, hA, hgl, hcell, hok⟩ := HL.out k hk
        subst hA
        generalize ls[k] = bb at hcell hok
        obtain ⟨d, hd⟩ := hR.out
        have hcw : wr.cell? ⟨g, o + k, none⟩ = some (.slice bb.A bb.l.length bb.c) := (hd.1.below.cell hgl).trans hcell
        obtain ⟨m, hm⟩ : ∃ m : Nat, min (bb.l.length : Int) 100 = (m : Int) := ⟨min bb.l.length 100, by omega⟩
        have hmc : m ≤ bb.c := by have := hok.cap; omega
        have HOK := hide hok
        have HD := hide hd
        obtain ⟨x, hx, hxr⟩ : ∃ x : List UInt8, x.length = m ∧ Reads w w.heap.size 1 bb.A x.length (x.map u8V) := ⟨bb.l.take m, by simp; omega, hok.reads.cut m⟩
        have hx100 : x.length ≤ 100 := by omega
        subst hx
        have HX := hide hxr
        have HX100 := hide hx100
        obtain ⟨hdk, fit, hdown, hdlim, hu, hnbk⟩ := hd
        have HNB := hide hnbk
        have T0 : ∀ j, j = nb → j < wr.heap.size := fun j hj => by rw [hj]; exact hnbk.lt
        clear hok hcell hxr hx100 HOK HD
        by_cases hkw : k < lw.length
        · obtain ⟨gw, ow, hAw, hgw, hcells⟩ := HW.out.lit_addr (by omega)
          subst hAw
          have hki : (lw.map u8V)[k]? = some (u8V lw[k]) := by simp [hkw]
          have hcw2 : wr.cell? ⟨gw, ow + k, none⟩ = some (.int .u8 (lw[k].toNat : Nat)) := (hdk.below.cell hgw).trans (hcells k _ hki)
          obtain ⟨j, hj, hj3⟩ : ∃ j : Nat, lw[k].toNat % 3 = j ∧ j < 3 := ⟨_, rfl, Nat.mod_lt _ (by omega)⟩
          have hjm : ((lw[k].toNat : Nat) : Int).tmod 3 = (j : Int) := by rw [← hj]; rfl
          have hj8 : IntKind.u8.wrap (j : Int) = (j : Int) := by simp [IntKind.wrap, IntKind.signed, IntKind.bits]; omega
          have hj64 : IntKind.i64.wrap (j : Int) = (j : Int) := IntWalk.i64_in _ (by omega)
          have hncell : ∃ nm : Nm, wr.cell? ⟨nb, j, none⟩ = some (.string ⟨nm.toArray⟩) ∧ nmBad nm = false ∧ nm.length ≤ maxLen := full_names hnbk hj3
          obtain ⟨nm, hnc, hnbad, hnl⟩ := hncell
          generalize lw[k].toNat = bv at *
          clear hcells hki hj hnbk
          go_wp2_with fail
          go_quiet (fail)
          go_wp2_with fail
          have g0 := hdk.drewN nq
          have k1 := g0.read_ T0 fit nm hnl (by omega)
          rw [full_read hdown hnbad] at k1
          refine k1.mono ?_
          rintro e w4 ⟨v4, rfl, r4, h4, t4, b4⟩
          obtain ⟨A4, c4, rfl, -⟩ := slice_form r4
          have h4' : DkB w w4 (fun i => i = nb ∨ (wr.heap.size ≤ i ∧ i < w4.heap.size)) b d := (g0.foot (fun i hi => hi.imp id fun h => .inr h.1)).more b4
          have T4 : ∀ i, (i = nb ∨ (wr.heap.size ≤ i ∧ i < w4.heap.size)) → i < w4.heap.size := fun i hi => by
            rcases hi with hi | hi
            · have := T0 i hi; have := t4.size; simp at this; omega
            · exact hi.2
          have hnc4 : w4.cell? ⟨nb, j, none⟩ = some (.string ⟨nm.toArray⟩) := (World.cell?_of_block (w := wr) (t4.block nb rfl)).trans hnc
          have R4 := hide r4
          clear k1 h4 r4 hnc
          go_wp2_with fail
          have k2 := h4'.append_ T4 fit nm hnl bb.A bb.c x ((HX.out.below h4'.below).upto h4'.below.size) (by omega) (by have := HX100.out; omega)
          rw [full_e hdown hnbad] at k2
          by_cases hf : d.lim - (dUsed d.l : Int) < x.length
          · rw [if_pos hf] at k2
            have hE : dAppendE d nm x ≠ 0 := by rw [full_e hdown hnbad, if_pos hf]; decide
            rw [full_same hE] at k2
            have hdown5 := hdown
            have fit5 := fit
            refine k2.mono ?_
            rintro e w5 ⟨rfl, h5, t5⟩
            have T5 : ∀ i, (i = nb ∨ (wr.heap.size ≤ i ∧ i < w4.heap.size)) → i < w5.heap.size := fun i hi => Nat.lt_of_lt_of_le (T4 i hi) t5.size
            have hnc5 : w5.cell? ⟨nb, _, none⟩ = some (.string ⟨nm.toArray⟩) := (World.cell?_of_block (w := w4) (a := ⟨nb, _, none⟩) (t5.block nb (.inl rfl))).trans hnc4
            clear k2 h4' hnc4
            go_wp2_with fail
            have k3 := h5.read_ T5 fit5 nm hnl (by omega)
            rw [full_read hdown5 hnbad] at k3
            refine k3.mono ?_
            rintro e w6 ⟨v6, rfl, r6, h6, t6, b6⟩
            obtain ⟨A6, c6, rfl, -⟩ := slice_form r6
            have s4 := str_of w6 _ A4 c4 (dOld nm d.l).b (by have := Reads.of_own (ownsRow_stay R4.out fun g h1 h2 => (t6.block g (.inr ⟨h1, h2⟩)).trans (t5.block g (.inr ⟨h1, h2⟩))); simpa using this)
            have s6 := str_of w6 _ A6 c6 (dOld nm d.l).b (by have := Reads.of_own r6; simpa using this)
            have sx := str_of w6 _ bb.A bb.c x (HX.out.below h6.below)
            have hub : dUsed d.l ≤ 100 * k := fit.bytes
            have hw87 : IntKind.i64.wrap (u + (x.length : Int)) = u + (x.length : Int) := IntWalk.i64_in _ (by have := HX100.out; omega)
            have hwb : (dOld nm d.l).b.length ≤ dUsed d.l := by
              unfold dOld
              cases hg : fGet nm d.l with
              | none => simp
              | some f => exact dUsed_mem (fGet_mem hg)
            have hcs : ¬ (9223372036854775807 < (dOld nm d.l).b.length + x.length) := by have := HX100.out; omega
            have hcs2 : ¬ (9223372036854775807 < (⟨(dOld nm d.l).b.toArray⟩ : ByteArray).size + (⟨x.toArray⟩ : ByteArray).size) := by simpa [ByteArray.size] using hcs
            have hcat : (⟨(dOld nm d.l).b.toArray⟩ : ByteArray) ++ ⟨x.toArray⟩ = ⟨((dOld nm d.l).b ++ x).toArray⟩ := by
              apply ByteArray.ext
              simp
            have hle : ¬ (u + (x.length : Int) ≤ max lim 0) := by
              rw [hdlim] at hf
              split at hf <;> omega
            have T6 : ∀ i, (i = nb ∨ (wr.heap.size ≤ i ∧ i < w4.heap.size)) → i < w6.heap.size := fun i hi => Nat.lt_of_lt_of_le (T5 i hi) t6.size
            have k4 := h6.used_ T6 fit5 (by omega)
            clear k3 h5 r6
            go_wp2_with fail
            refine k4.mono ?_
            rintro e w7 ⟨rfl, h7, t7⟩
            have hfin : FuRel w b nb (if lim < 0 then 0 else lim) (k + 1) (u) w7 := by
              refine ⟨d, h7.foot (fun i hi => .inl (.inl hi)), fit5.mono (by omega) (by have := HX100.out; omega), hdown5, hdlim, hu, HNB.out.keep ?_⟩
              exact (t7.block nb (.inl rfl)).trans ((t6.block nb (.inl rfl)).trans ((t5.block nb (.inl rfl)).trans (t4.block nb rfl)))
            have HFIN := hide hfin
            clear hfin k4 h6
            go_wp2_with fail
            go_roundw
            case rel => exact ⟨k + 1, _, by rw [hu], by go_num, by omega, HFIN⟩
            case measure => simp [intOf]; omega
          · rw [if_neg hf] at k2
            have hE : dAppendE d nm x = 0 := by rw [full_e hdown hnbad, if_neg hf]
            obtain ⟨e1, e2, e3, e4⟩ := full_used fit.ok.sort hE
            have fit5 := fit.append nm x
            generalize dAppend d nm x = d5 at k2 e1 e2 e3 e4 fit5
            have hdown5 : d5.down = false := e3.trans hdown
            refine k2.mono ?_
            rintro e w5 ⟨rfl, h5, t5⟩
            have T5 : ∀ i, (i = nb ∨ (wr.heap.size ≤ i ∧ i < w4.heap.size)) → i < w5.heap.size := fun i hi => Nat.lt_of_lt_of_le (T4 i hi) t5.size
            have hnc5 : w5.cell? ⟨nb, _, none⟩ = some (.string ⟨nm.toArray⟩) := (World.cell?_of_block (w := w4) (a := ⟨nb, _, none⟩) (t5.block nb (.inl rfl))).trans hnc4
            clear k2 h4' hnc4
            go_wp2_with fail
            have k3 := h5.read_ T5 fit5 nm hnl (by omega)
            rw [full_read hdown5 hnbad] at k3
            refine k3.mono ?_
            rintro e w6 ⟨v6, rfl, r6, h6, t6, b6⟩
            obtain ⟨A6, c6, rfl, -⟩ := slice_form r6
            have s4 := str_of w6 _ A4 c4 (dOld nm d.l).b (by have := Reads.of_own (ownsRow_stay R4.out fun g h1 h2 => (t6.block g (.inr ⟨h1, h2⟩)).trans (t5.block g (.inr ⟨h1, h2⟩))); simpa using this)
            have s6 := str_of w6 _ A6 c6 (dOld nm d5.l).b (by have := Reads.of_own r6; simpa using this)
            have sx := str_of w6 _ bb.A bb.c x (HX.out.below h6.below)
            have hub : dUsed d.l ≤ 100 * k := fit.bytes
            have hw87 : IntKind.i64.wrap (u + (x.length : Int)) = u + (x.length : Int) := IntWalk.i64_in _ (by have := HX100.out; omega)
            have hwb : (dOld nm d.l).b.length ≤ dUsed d.l := by
              unfold dOld
              cases hg : fGet nm d.l with
              | none => simp
              | some f => exact dUsed_mem (fGet_mem hg)
            have hcs : ¬ (9223372036854775807 < (dOld nm d.l).b.length + x.length) := by have := HX100.out; omega
            have hcs2 : ¬ (9223372036854775807 < (⟨(dOld nm d.l).b.toArray⟩ : ByteArray).size + (⟨x.toArray⟩ : ByteArray).size) := by simpa [ByteArray.size] using hcs
            have hcat : (⟨(dOld nm d.l).b.toArray⟩ : ByteArray) ++ ⟨x.toArray⟩ = ⟨((dOld nm d.l).b ++ x).toArray⟩ := by
              apply ByteArray.ext
              simp
            have hle : u + (x.length : Int) ≤ max lim 0 := by
              rw [hdlim] at hf
              split at hf <;> omega
            replace s6 : (convert 22 9 (.slice A6 (dOld nm d5.l).b.length c6)).run Try.prog w6 = .ok (.string ⟨((dOld nm d.l).b ++ x).toArray⟩) w6 := by rw [← e2]; exact s6
            clear e2
            have hu5 : ((dUsed d5.l : Nat) : Int) = u + (x.length : Int) := by omega
            have T6 : ∀ i, (i = nb ∨ (wr.heap.size ≤ i ∧ i < w4.heap.size)) → i < w6.heap.size := fun i hi => Nat.lt_of_lt_of_le (T5 i hi) t6.size
            have k4 := h6.used_ T6 fit5 (by omega)
            clear k3 h5 r6
            go_wp2_with fail
            refine k4.mono ?_
            rintro e w7 ⟨rfl, h7, t7⟩
            have hfin : FuRel w b nb (if lim < 0 then 0 else lim) (k + 1) (u + (x.length : Int)) w7 := by
              refine ⟨d5, h7.foot (fun i hi => .inl (.inl hi)), fit5.mono (by omega) (by have := HX100.out; omega), hdown5, e4.trans hdlim, hu5.symm, HNB.out.keep ?_⟩
              exact (t7.block nb (.inl rfl)).trans ((t6.block nb (.inl rfl)).trans ((t5.block nb (.inl rfl)).trans (t4.block nb rfl)))
            have HFIN := hide hfin
            clear hfin k4 h6
            go_wp2_with fail
            go_roundw
            case rel => exact ⟨k + 1, _, by rw [hu], by go_num, by omega, HFIN⟩
            case measure => simp [intOf]; omega
        · have hncell := full_names hnbk (show 0 < 3 by omega)
          obtain ⟨nm, hnc, hnbad, hnl⟩ := hncell
          clear hnbk
          go_wp2_with fail
          go_quiet (fail)
          go_wp2_with fail
          have g0 := hdk.drewN nq
          have k1 := g0.read_ T0 fit nm hnl (by omega)
          rw [full_read hdown hnbad] at k1
          refine k1.mono ?_
          rintro e w4 ⟨v4, rfl, r4, h4, t4, b4⟩
          obtain ⟨A4, c4, rfl, -⟩ := slice_form r4
          have h4' : DkB w w4 (fun i => i = nb ∨ (wr.heap.size ≤ i ∧ i < w4.heap.size)) b d := (g0.foot (fun i hi => hi.imp id fun h => .inr h.1)).more b4
          have T4 : ∀ i, (i = nb ∨ (wr.heap.size ≤ i ∧ i < w4.heap.size)) → i < w4.heap.size := fun i hi => by
            rcases hi with hi | hi
            · have := T0 i hi; have := t4.size; simp at this; omega
            · exact hi.2
          have hnc4 : w4.cell? ⟨nb, 0, none⟩ = some (.string ⟨nm.toArray⟩) := (World.cell?_of_block (w := wr) (t4.block nb rfl)).trans hnc
          have R4 := hide r4
          clear k1 h4 r4 hnc
          go_wp2_with fail
          have k2 := h4'.append_ T4 fit nm hnl bb.A bb.c x ((HX.out.below h4'.below).upto h4'.below.size) (by omega) (by have := HX100.out; omega)
          rw [full_e hdown hnbad] at k2
          by_cases hf : d.lim - (dUsed d.l : Int) < x.length
          · rw [if_pos hf] at k2
            have hE : dAppendE d nm x ≠ 0 := by rw [full_e hdown hnbad, if_pos hf]; decide
            rw [full_same hE] at k2
            have hdown5 := hdown
            have fit5 := fit
            refine k2.mono ?_
            rintro e w5 ⟨rfl, h5, t5⟩
            have T5 : ∀ i, (i = nb ∨ (wr.heap.size ≤ i ∧ i < w4.heap.size)) → i < w5.heap.size := fun i hi => Nat.lt_of_lt_of_le (T4 i hi) t5.size
            have hnc5 : w5.cell? ⟨nb, _, none⟩ = some (.string ⟨nm.toArray⟩) := (World.cell?_of_block (w := w4) (a := ⟨nb, _, none⟩) (t5.block nb (.inl rfl))).trans hnc4
            clear k2 h4' hnc4
            go_wp2_with fail
            have k3 := h5.read_ T5 fit5 nm hnl (by omega)
            rw [full_read hdown5 hnbad] at k3
            refine k3.mono ?_
            rintro e w6 ⟨v6, rfl, r6, h6, t6, b6⟩
            obtain ⟨A6, c6, rfl, -⟩ := slice_form r6
            have s4 := str_of w6 _ A4 c4 (dOld nm d.l).b (by have := Reads.of_own (ownsRow_stay R4.out fun g h1 h2 => (t6.block g (.inr ⟨h1, h2⟩)).trans (t5.block g (.inr ⟨h1, h2⟩))); simpa using this)
            have s6 := str_of w6 _ A6 c6 (dOld nm d.l).b (by have := Reads.of_own r6; simpa using this)
            have sx := str_of w6 _ bb.A bb.c x (HX.out.below h6.below)
            have hub : dUsed d.l ≤ 100 * k := fit.bytes
            have hw87 : IntKind.i64.wrap (u + (x.length : Int)) = u + (x.length : Int) := IntWalk.i64_in _ (by have := HX100.out; omega)
            have hwb : (dOld nm d.l).b.length ≤ dUsed d.l := by
              unfold dOld
              cases hg : fGet nm d.l with
              | none => simp
              | some f => exact dUsed_mem (fGet_mem hg)
            have hcs : ¬ (9223372036854775807 < (dOld nm d.l).b.length + x.length) := by have := HX100.out; omega
            have hcs2 : ¬ (9223372036854775807 < (⟨(dOld nm d.l).b.toArray⟩ : ByteArray).size + (⟨x.toArray⟩ : ByteArray).size) := by simpa [ByteArray.size] using hcs
            have hcat : (⟨(dOld nm d.l).b.toArray⟩ : ByteArray) ++ ⟨x.toArray⟩ = ⟨((dOld nm d.l).b ++ x).toArray⟩ := by
              apply ByteArray.ext
              simp
            have hle : ¬ (u + (x.length : Int) ≤ max lim 0) := by
              rw [hdlim] at hf
              split at hf <;> omega
            have T6 : ∀ i, (i = nb ∨ (wr.heap.size ≤ i ∧ i < w4.heap.size)) → i < w6.heap.size := fun i hi => Nat.lt_of_lt_of_le (T5 i hi) t6.size
            have k4 := h6.used_ T6 fit5 (by omega)
            clear k3 h5 r6
            go_wp2_with fail
            refine k4.mono ?_
            rintro e w7 ⟨rfl, h7, t7⟩
            have hfin : FuRel w b nb (if lim < 0 then 0 else lim) (k + 1) (u) w7 := by
              refine ⟨d, h7.foot (fun i hi => .inl (.inl hi)), fit5.mono (by omega) (by have := HX100.out; omega), hdown5, hdlim, hu, HNB.out.keep ?_⟩
              exact (t7.block nb (.inl rfl)).trans ((t6.block nb (.inl rfl)).trans ((t5.block nb (.inl rfl)).trans (t4.block nb rfl)))
            have HFIN := hide hfin
            clear hfin k4 h6
            go_wp2_with fail
            go_roundw
            case rel => exact ⟨k + 1, _, by rw [hu], by go_num, by omega, HFIN⟩
            case measure => simp [intOf]; omega
          · rw [if_neg hf] at k2
            have hE : dAppendE d nm x = 0 := by rw [full_e hdown hnbad, if_neg hf]
            obtain ⟨e1, e2, e3, e4⟩ := full_used fit.ok.sort hE
            have fit5 := fit.append nm x
            generalize dAppend d nm x = d5 at k2 e1 e2 e3 e4 fit5
            have hdown5 : d5.down = false := e3.trans hdown
            refine k2.mono ?_
            rintro e w5 ⟨rfl, h5, t5⟩
            have T5 : ∀ i, (i = nb ∨ (wr.heap.size ≤ i ∧ i < w4.heap.size)) → i < w5.heap.size := fun i hi => Nat.lt_of_lt_of_le (T4 i hi) t5.size
            have hnc5 : w5.cell? ⟨nb, _, none⟩ = some (.string ⟨nm.toArray⟩) := (World.cell?_of_block (w := w4) (a := ⟨nb, _, none⟩) (t5.block nb (.inl rfl))).trans hnc4
            clear k2 h4' hnc4
            go_wp2_with fail
            have k3 := h5.read_ T5 fit5 nm hnl (by omega)
            rw [full_read hdown5 hnbad] at k3
            refine k3.mono ?_
            rintro e w6 ⟨v6, rfl, r6, h6, t6, b6⟩
            obtain ⟨A6, c6, rfl, -⟩ := slice_form r6
            have s4 := str_of w6 _ A4 c4 (dOld nm d.l).b (by have := Reads.of_own (ownsRow_stay R4.out fun g h1 h2 => (t6.block g (.inr ⟨h1, h2⟩)).trans (t5.block g (.inr ⟨h1, h2⟩))); simpa using this)
            have s6 := str_of w6 _ A6 c6 (dOld nm d5.l).b (by have := Reads.of_own r6; simpa using this)
            have sx := str_of w6 _ bb.A bb.c x (HX.out.below h6.below)
            have hub : dUsed d.l ≤ 100 * k := fit.bytes
            have hw87 : IntKind.i64.wrap (u + (x.length : Int)) = u + (x.length : Int) := IntWalk.i64_in _ (by have := HX100.out; omega)
            have hwb : (dOld nm d.l).b.length ≤ dUsed d.l := by
              unfold dOld
              cases hg : fGet nm d.l with
              | none => simp
              | some f => exact dUsed_mem (fGet_mem hg)
            have hcs : ¬ (9223372036854775807 < (dOld nm d.l).b.length + x.length) := by have := HX100.out; omega
            have hcs2 : ¬ (9223372036854775807 < (⟨(dOld nm d.l).b.toArray⟩ : ByteArray).size + (⟨x.toArray⟩ : ByteArray).size) := by simpa [ByteArray.size] using hcs
            have hcat : (⟨(dOld nm d.l).b.toArray⟩ : ByteArray) ++ ⟨x.toArray⟩ = ⟨((dOld nm d.l).b ++ x).toArray⟩ := by
              apply ByteArray.ext
              simp
            have hle : u + (x.length : Int) ≤ max lim 0 := by
              rw [hdlim] at hf
              split at hf <;> omega
            replace s6 : (convert 22 9 (.slice A6 (dOld nm d5.l).b.length c6)).run Try.prog w6 = .ok (.string ⟨((dOld nm d.l).b ++ x).toArray⟩) w6 := by rw [← e2]; exact s6
            clear e2
            have hu5 : ((dUsed d5.l : Nat) : Int) = u + (x.length : Int) := by omega
            have T6 : ∀ i, (i = nb ∨ (wr.heap.size ≤ i ∧ i < w4.heap.size)) → i < w6.heap.size := fun i hi => Nat.lt_of_lt_of_le (T5 i hi) t6.size
            have k4 := h6.used_ T6 fit5 (by omega)
            clear k3 h5 r6
            go_wp2_with fail
            refine k4.mono ?_
            rintro e w7 ⟨rfl, h7, t7⟩
            have hfin : FuRel w b nb (if lim < 0 then 0 else lim) (k + 1) (u + (x.length : Int)) w7 := by
              refine ⟨d5, h7.foot (fun i hi => .inl (.inl hi)), fit5.mono (by omega) (by have := HX100.out; omega), hdown5, e4.trans hdlim, hu5.symm, HNB.out.keep ?_⟩
              exact (t7.block nb (.inl rfl)).trans ((t6.block nb (.inl rfl)).trans ((t5.block nb (.inl rfl)).trans (t4.block nb rfl)))
            have HFIN := hide hfin
            clear hfin k4 h6
            go_wp2_with fail
            go_roundw
            case rel => exact ⟨k + 1, _, by rw [hu], by go_num, by omega, HFIN⟩
            case measure => simp [intOf]; omega
      · have hbw : Below w.heap.size w wr := by obtain ⟨d, hd, _⟩ := hR.out; exact hd.below
        go_wp2_with fail
        go_ret
        exact ⟨rfl, hbw⟩
    · have hbw : Below w.heap.size w wr := by obtain ⟨d, hd, _⟩ := hR.out; exact hd.below
      go_wp2_with fail
      go_ret
      exact ⟨rfl, hbw⟩

open Go.ChangeShapes Go.WideShapes Go.ChangeAt in
open Go.ChangeMaps (open_string) in
set_option maxRecDepth 100000 in
theorem diskFull_lifted (os : Os) (started : os.Started) (H : Type) (enc : TypeId × Value → H) :
    ReturnsInHanded {} Try.checked os 4 .any (Rows.diskFullSpec.pre6 enc Try.prog Try.f4 Rows.diskFullRow.domain false) (Rows.diskFullSpec.post enc Try.prog Try.f4 false true false false) := by
  refine returnsInHanded_of_change (C := Try.checked) own started (by kernel_rfl) Try.func4
    (ChangeSpec.witness6 (enc := enc) (C := Try.checked) false ⟨#[], #[.int .i64 0, .slice none 0 0, .slice none 0 0], []⟩ 8 (by kernel_rfl) (by kernel_rfl) (by kernel_rfl) (by kernel_rfl)) ?_
  intro W base args ds gs before hval0 hW _ _
  have hval : ∀ (j : Nat) t v, Try.f4.params[j]? = some t → args[j]? = some v → Value.okWide Try.prog W .any base t v := hval0
  have hW' := hW
  obtain ⟨p, q, hA0, hV, rfl, hfz, hnd⟩ := hW
  have hA : DataW.TrodAll enc Try.prog W 0 (fun _ => true) true Try.f4.params.toList args.toList ds p := hA0
  rw [Try.params4] at hA hval
  obtain ⟨v0, vs0, d0, ds0, p0, q0, hargs, rfl, rfl, h0, r0⟩ := trodAll_cons hA
  obtain ⟨v1, vs1, d1, ds1, p1, q1, rfl, rfl, rfl, h1, r1⟩ := trodAll_cons r0
  obtain ⟨v2, vs2, d2, ds2, p2, q2, rfl, rfl, rfl, h2, r2⟩ := trodAll_cons r1
  obtain ⟨rfl, rfl, rfl⟩ := trodAll_nil r2
  obtain rfl : args = #[v0, v1, v2] := by cases args; simp_all
  obtain ⟨rfl, rfl⟩ := trodVars_none hV
  obtain ⟨a0, rfl, -, -, w0⟩ := open_int Try.underlying3 (hval 0 _ v0 rfl rfl) h0
  have b0 := bounds_i64 w0
  obtain ⟨A, ls, c, rfl, hl, hll⟩ := rows_of (hval 1 _ v1 rfl rfl) h1
  obtain ⟨Aw, lw, cw, rfl, hw, hcw, hcw2⟩ := bytes_of (hval 2 _ v2 rfl rfl) h2
  refine (full_walk a0 A ls c Aw lw cw W b0.1 b0.2 hl hll hw (Nat.le_trans hcw hcw2)).mono fun e W' ⟨he, hb⟩ => ?_
  subst he
  exact ⟨_, rfl, law_post (tb := 4) laidOut (params_ok _ (by kernel_rfl)) rfl rfl Try.underlying4 hW' rfl hb⟩

theorem diskFull_over : Rows.diskFullRow.holds Try.pinned (OpenSpec.ofChange Rows.diskFullSpec) :=
  OpenClaim.holds_of_wide 4 Try.f4 rfl rfl rfl rfl rfl rfl rfl ⟨rfl, rfl, rfl, rfl, rfl⟩ rfl rfl rfl rfl rfl (by kernel_rfl) Try.func4 (by kernel_rfl)
    (of_decide_eq_true (by kernel_rfl)) (by unfold Func.isWrapper; first | (rw [if_pos (by decide +kernel)]; kernel_rfl) | (rw [if_neg (by decide +kernel)]; exact ⟨rfl, rfl⟩))
    (fun os started H enc _ => diskFull_lifted os started H enc)

theorem diskFull_holds : Rows.DiskFullSaid := diskFull_over
end Go.Proofs.Ytbkenickmiapdaa
