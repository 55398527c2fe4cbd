/- DERIVED. Walks of package disk's small functions: names that are wrong. -/
import Derived.Test.YtbkenickmiapdaaApp
import Derived.Test.YtbkenickmiapdaaDm
import Derived.Deep.OwnRows
import Derived.Deep.CutBlock
import Derived.Deep.DeepCutAuto
import Derived.Maps.OwnSet
namespace Go.Proofs.Ytbkenickmiapdaa
set_option linter.unusedVariables false
set_option linter.unusedSimpArgs false
open Go.RowKit

/-- A text as a value. -/
def strV (n : Nm) : Value := .string ⟨n.toArray⟩

set_option maxHeartbeats 400000 in
theorem dk_wrong (n : Nm) (w : World) (hn : n.length ≤ maxLen) : Calls Try.prog 45 #[.string ⟨n.toArray⟩] w fun e w' => e = .returned (.bool (nmBad n)) ∧ w' = w := by
  unfold maxLen at hn
  cases n with
  | nil =>
    go_enter Try.func45, Try.ntmps45
    go_wp2
    go_ret
    exact ⟨rfl, rfl⟩
  | cons c r =>
    go_enter Try.func45, Try.ntmps45
    go_wp2
    go_ret
    refine ⟨ret_bool ?_, rfl⟩
    simp [nmBad]
    omega

/-- The texts in a row. -/
def TextsAt (w : World) (nb : Nat) (ns : List Nm) : Prop := ∀ (i : Nat) (h : i < ns.length), w.cell? ⟨nb, i, none⟩ = some (.string ⟨ns[i].toArray⟩)

set_option maxHeartbeats 400000 in
theorem dk_index (nb c : Nat) (ns : List Nm) (w : World) (hl : ns.length ≤ 1000) (hn : ∀ n ∈ ns, n.length ≤ maxLen) (h : TextsAt w nb ns) :
    Calls Try.prog 52 #[.slice (some ⟨nb, 0, none⟩) ns.length c, .func (.func 45) #[] #[]] w fun e w' => ∃ i : Int, e = .returned (.int .i64 i) ∧ decide (0 ≤ i) = ns.any nmBad ∧ w' = w := by
  go_enter Try.func52, Try.ntmps52
  go_wp2
  go_loop [8] (fun i => ∃ k : Nat, i = .int .i64 k ∧ k ≤ ns.length ∧ Hid ((ns.take k).any nmBad = false)) (fun i => ns.length - (intOf i).toNat)
  case atStart => exact ⟨0, rfl, Nat.zero_le _, rfl⟩
  case round =>
    obtain ⟨k, rfl, hk, hno⟩ := hrel
    by_cases hlt : k < ns.length
    · have hc := h k hlt
      have hlen := hn ns[k] (List.getElem_mem hlt)
      have HS : Hid ((ns.take (k + 1)).any nmBad = ((ns.take k).any nmBad || nmBad ns[k])) := by
        rw [List.take_succ_eq_append_getElem hlt, List.any_append]; simp [Hid]
      have HA : Hid (nmBad ns[k] = true → ns.any nmBad = true) := fun hb => List.any_eq_true.2 ⟨_, List.getElem_mem hlt, hb⟩
      have kc := dk_wrong ns[k] w hlen
      generalize hb : nmBad ns[k] = bad at *
      have HB := hide hb
      clear hb h hn
      have KC := hide kc
      clear kc
      cases bad with
      | true =>
        go_wp2_with (go_at_call 45; refine KC.out.mono ?_; rintro e w' ⟨rfl, rfl⟩)
        go_ret
        exact ⟨k, rfl, by rw [HA.out trivial]; simp, rfl⟩
      | false =>
        go_wp2_with (go_at_call 45; refine KC.out.mono ?_; rintro e w' ⟨rfl, rfl⟩)
        go_round
        case rel => exact ⟨k + 1, by go_num, by omega, by rw [HS.out, hno.out]; rfl⟩
        case measure => simp [intOf]; omega
    · obtain rfl : k = ns.length := by omega
      go_wp2
      go_ret
      exact ⟨-1, rfl, by have := hno.out; rw [List.take_length] at this; rw [this]; rfl, rfl⟩

set_option maxHeartbeats 400000 in
theorem dk_contains (nb c : Nat) (ns : List Nm) (w : World) (hl : ns.length ≤ 1000) (hn : ∀ n ∈ ns, n.length ≤ maxLen) (h : TextsAt w nb ns) :
    Calls Try.prog 46 #[.slice (some ⟨nb, 0, none⟩) ns.length c, .func (.func 45) #[] #[]] w fun e w' => e = .returned (.bool (ns.any nmBad)) ∧ w' = w := by
  have kc := dk_index nb c ns w hl hn h
  have KC := hide kc
  clear kc h hn
  go_enter Try.func46, Try.ntmps46
  go_wp2_with fail
  refine KC.out.mono ?_
  rintro e w' ⟨i, rfl, hi, rfl⟩
  have HI := hide hi
  clear hi
  go_wp2_with fail
  go_ret
  exact ⟨ret_bool HI.out, rfl⟩

/-- How a file's pointer reads: as it is. -/
def heldR (v : Value) : Option (DataW Value × List MemPlace) := some (.held v, [])

/-- A file in memory: its block, the block of its bytes. -/
structure FB where
  blk : Nat
  row : Option Nat
  f : DF

def ptrV (b : Nat) : Value := .pointer (some ⟨b, 0, none⟩)
def encF (p : Nm × FB) : Lit × DataW Value := (.string p.1, .held (ptrV p.2.blk))

structure FileAt (w : World) (x : FB) : Prop where
  ex : ∃ sv, Blk w x.blk 64 #[sv, .int .i64 x.f.s] ∧ w.ownsRow 0 5 1 sv x.f.b.length (x.f.b.map u8V) ∧ sv.ownBlock = x.row

structure DkAt (w : World) (b mb : Nat) (L : List (Nm × FB)) (lim : Int) (down : Bool) : Prop where
  head : Blk w b 60 #[.int .i64 lim, .map (some mb), .bool down]
  map : w.ownsMap Try.prog 9 heldR mb L.length (.map (L.map encF))
  files : ∀ p ∈ L, FileAt w p.2
  apart : L.Pairwise fun p q => p.2.blk ≠ q.2.blk
  rows : L.Pairwise fun p q => ∀ r, p.2.row = some r → q.2.row ≠ some r

def dkFoot (b mb : Nat) (L : List (Nm × FB)) : Foot := fun k => k = b ∨ k = mb ∨ ∃ p ∈ L, k = p.2.blk ∨ p.2.row = some k
def dkView (L : List (Nm × FB)) : List (Nm × DF) := L.map fun p => (p.1, p.2.f)

/-- Behind block b stands the disk d; its blocks lie in S. -/
def Dk (w : World) (S : Foot) (b : Nat) (d : DS) : Prop := ∃ mb L, DkAt w b mb L d.lim d.down ∧ dkView L = d.l ∧ (∀ k, dkFoot b mb L k → S k) ∧ ∀ k, S k → k < w.heap.size

theorem keyed : Maps.Keyed Try.prog 9 := Maps.string_keyed Try.underlying9
theorem key_of (n : Nm) (h : n.length ≤ maxLen) : keyOf Try.prog 9 (.string ⟨n.toArray⟩) = some (.string n) :=
  Go.WideMaps.keyOf_string_mk Try.underlying9 (by simpa [ByteArray.size] using h)

theorem same_str (a b : Nm) : (Lit.string a).sameKey (.string b) = (a == b) := rfl
theorem find_enc (n : Nm) (L : List (Nm × FB)) : (L.map encF).find? (fun p => p.1.sameKey (.string n)) = (L.find? (fun p => p.1 == n)).map encF := by
  induction L with
  | nil => rfl
  | cons p r ih =>
    simp only [List.map_cons, List.find?_cons]
    rw [show (encF p).1.sameKey (.string n) = (p.1 == n) from rfl]
    split
    · rfl
    · exact ih
theorem at_enc (n : Nm) (L : List (Nm × FB)) (z : DataW Value) : (DataW.map (L.map encF)).atKey (.string n) z = match fGet n L with | some x => .held (ptrV x.blk) | none => z := by
  unfold DataW.atKey
  simp only [find_enc]
  unfold fGet
  cases L.find? (fun p => p.1 == n) with
  | none => rfl
  | some p => rfl
theorem enc_ins (x : Nm × FB) (L : List (Nm × FB)) : (fIns x L).map encF = DataW.insert (encF x) (L.map encF) := by
  induction L with
  | nil => rfl
  | cons y r ih =>
    simp only [fIns, List.map_cons, DataW.insert]
    rw [show (encF x).1.before (encF y).1 = bytesBefore x.1 y.1 from rfl]
    split
    · rfl
    · rw [List.map_cons, ih]
theorem enc_del (n : Nm) (L : List (Nm × FB)) : (fDel n L).map encF = (L.map encF).filter fun p => !p.1.sameKey (.string n) := by
  induction L with
  | nil => rfl
  | cons y r ih =>
    simp only [fDel, List.filter_cons, List.map_cons]
    rw [show (encF y).1.sameKey (.string n) = (y.1 == n) from rfl]
    split
    · rw [List.map_cons]; congr 1
    · exact ih
theorem enc_put (n : Nm) (x : FB) (L : List (Nm × FB)) : (DataW.map (L.map encF)).put (.string n) (.held (ptrV x.blk)) = .map ((fPut n x L).map encF) := by
  unfold DataW.put fPut
  rw [enc_ins, enc_del]
  rfl
theorem enc_del_map (n : Nm) (L : List (Nm × FB)) : (DataW.map (L.map encF)).del (.string n) = .map ((fDel n L).map encF) := by
  unfold DataW.del
  rw [enc_del]

theorem dkView_get (n : Nm) (L : List (Nm × FB)) : fGet n (dkView L) = (fGet n L).map (·.f) := by
  induction L with
  | nil => rfl
  | cons p r ih =>
    show fGet n ((p.1, p.2.f) :: dkView r) = _
    rw [fGet_cons, fGet_cons]
    split
    · rfl
    · exact ih

/-- 'files[name]': the file's pointer, or nil. -/
theorem DkAt.look {w : World} {b mb : Nat} {L : List (Nm × FB)} {lim : Int} {down : Bool} (h : DkAt w b mb L lim down) (n : Nm) (hn : n.length ≤ maxLen) (k : Nat) :
    (Instr.lookup 58 (.map (some mb)) (.string ⟨n.toArray⟩) false).run Try.prog (w.drewN k) = .ok (match fGet n L with | some x => ptrV x.blk | none => .pointer none) (w.drewN k) := by
  have hm : (w.drewN k).ownsMap Try.prog 9 heldR mb L.length (.map (L.map encF)) := h.map
  obtain ⟨v, ps, hrun, hv⟩ := hm.lookup keyed Try.underlying58 (Try.zeroValue62 _) (zd := .held (.pointer none)) (zp := []) rfl (key_of n hn)
  simp only [heldR, Option.some.injEq, Prod.mk.injEq] at hv
  have e := hv.1
  rw [at_enc] at e
  have hv2 : v = (match fGet n L with | some x => ptrV x.blk | none => .pointer none) := by
    revert e
    generalize fGet n L = o
    intro e
    cases o with
    | none => injection e
    | some x => injection e
  rw [hv2] at hrun
  exact hrun
end Go.Proofs.Ytbkenickmiapdaa
