/- DERIVED. The contracts of the document's answer for epochs (tidemarkref12): it holds the same numbers, 0 for who is not in. -/
import Derived.Test.YtpdifebbbolheaaEps
namespace Go.Proofs.Ytpdifebbbolheaa
set_option linter.unusedVariables false
set_option linter.unusedSimpArgs false
open Go.RowKit

/-- What the answer's row says of a worker. -/
def rfVal (x : Option Int) : Value := .int .u32 (x.getD 0)

structure Rf (w : World) (b sb : Nat) (now : Int) (ws : List (Option Int)) : Prop where
  head : Blk w b 43 #[.int .u32 now, .slice (some ⟨sb, 0, none⟩) ws.length ws.length]
  row : Blk w sb 22 (ws.map rfVal).toArray

theorem Rf.keep {w w' : World} {b sb : Nat} {now : Int} {ws : List (Option Int)} (h : Rf w b sb now ws) (h1 : w'.heap[b]? = w.heap[b]?) (h2 : w'.heap[sb]? = w.heap[sb]?) : Rf w' b sb now ws := ⟨h.head.keep h1, h.row.keep h2⟩
theorem Rf.ne_ {w : World} {b sb : Nat} {now : Int} {ws : List (Option Int)} (h : Rf w b sb now ws) : b ≠ sb := h.head.ne_ h.row (by decide)
theorem Rf.cell {w : World} {b sb : Nat} {now : Int} {ws : List (Option Int)} (h : Rf w b sb now ws) {q : Nat} (hq : q < ws.length) : w.cell? ⟨sb, q, none⟩ = some (.int .u32 ((epAt ws q).getD 0)) := by
  rw [h.row.cell q, epAt_of (List.getElem?_eq_getElem hq)]
  simp [hq, rfVal]
theorem Rf.set_ {w : World} {b sb : Nat} {now : Int} {ws : List (Option Int)} (h : Rf w b sb now ws) (q : Nat) (x : Option Int) : Rf (w.setCell ⟨sb, q, none⟩ (rfVal x)) b sb now (ws.set q x) := by
  refine ⟨?_, ?_⟩
  · have := h.head.far (p := ⟨sb, q, none⟩) h.ne_ (rfVal x); simpa using this
  · have := h.row.set_ q (rfVal x); simpa [List.map_set] using this

set_option maxHeartbeats 400000 in
theorem rf_there (b n : Nat) (k : Int) (sb : Option Addr) (w : World) (hn : n ≤ 8) (h0 : w.cell? ⟨b, 1, none⟩ = some (.slice sb n n)) :
    Calls Try.prog 23 #[.pointer (some ⟨b, 0, none⟩), .int .i64 k] w fun e w' => e = .returned (.bool (decide (0 ≤ k ∧ k < n))) ∧ w' = w := by
  by_cases h : 0 ≤ k
  · have hd : decide (0 ≤ k) = true := by simpa using h
    go_enter Try.func23, Try.ntmps23
    go_wp2
    go_ret
    refine ⟨ret_bool ?_, rfl⟩
    rw [Bool.eq_iff_iff]; simp <;> omega
  · have hd : decide (0 ≤ k) = false := by simpa using h
    go_enter Try.func23, Try.ntmps23
    go_wp2
    go_ret
    refine ⟨ret_bool ?_, rfl⟩
    have hf : ¬ (0 ≤ k ∧ k < (n : Int)) := by omega
    simp [hf]
theorem rf_there_yes (b n : Nat) (k : Int) (sb : Option Addr) (w : World) (hn : n ≤ 8) (hk : 0 ≤ k ∧ k < n) (h0 : w.cell? ⟨b, 1, none⟩ = some (.slice sb n n)) :
    Calls Try.prog 23 #[.pointer (some ⟨b, 0, none⟩), .int .i64 k] w fun e w' => e = .returned (.bool true) ∧ w' = w :=
  (rf_there b n k sb w hn h0).mono fun e w' ⟨he, hw⟩ => ⟨he.trans (ret_bool (by simpa using hk)), hw⟩
theorem rf_there_no (b n : Nat) (k : Int) (sb : Option Addr) (w : World) (hn : n ≤ 8) (hk : ¬ (0 ≤ k ∧ k < n)) (h0 : w.cell? ⟨b, 1, none⟩ = some (.slice sb n n)) :
    Calls Try.prog 23 #[.pointer (some ⟨b, 0, none⟩), .int .i64 k] w fun e w' => e = .returned (.bool false) ∧ w' = w :=
  (rf_there b n k sb w hn h0).mono fun e w' ⟨he, hw⟩ => ⟨he.trans (ret_bool (by simpa using hk)), hw⟩

/-- Behind a call of the answer's: its answer, and its epochs; nothing but their two blocks has turned. -/
def RfPost (w : World) (b sb : Nat) (r : Value) (now : Int) (ws : List (Option Int)) (e : Ending) (w' : World) : Prop :=
  e = .returned r ∧ Rf w' b sb now ws ∧ Mod (fun k => k = b ∨ k = sb) w w'
theorem RfPost.same {w w' : World} {b sb : Nat} {r : Value} {now : Int} {ws : List (Option Int)} {e : Ending} (h : Rf w b sb now ws) (he : e = .returned r) (hw : ∃ n, w' = w.drewN n) : RfPost w b sb r now ws e w' := by
  obtain ⟨n, rfl⟩ := hw
  exact ⟨he, h.keep rfl rfl, (Mod.refl _ w).drewN n⟩

section
variable {w : World} {b sb : Nat} {now : Int} {ws : List (Option Int)}

set_option maxHeartbeats 400000 in
theorem Rf.leave_ (h : Rf w b sb now ws) (ok : EpOk now ws) (k : Int) :
    Calls Try.prog 16 #[.pointer (some ⟨b, 0, none⟩), .int .i64 k] w (RfPost w b sb (.int .i64 (epLeaveE ws k)) now (epLeave ws k)) := by
  have hn := ok.len
  have h0 : w.cell? ⟨b, 0, none⟩ = some (.int .u32 now) := h.head.cell 0
  have h1 : w.cell? ⟨b, 1, none⟩ = some (.slice (some ⟨sb, 0, none⟩) ws.length ws.length) := h.head.cell 1
  by_cases hk : 0 ≤ k ∧ k < ws.length
  · obtain ⟨m, rfl⟩ := Int.eq_ofNat_of_zero_le hk.1
    have hm : m < ws.length := by omega
    have hc := h.cell hm
    have hf : w.frozen? ⟨sb, m, none⟩ = false := h.row.frozen m
    have hset := h.set_ m none
    have HS := hide hset
    cases hat : epAt ws m with
    | none =>
      rw [hat] at hc
      have e1 : epLeaveE ws m = 10 := by unfold epLeaveE; rw [epIs_yes hm, hat]; rfl
      have e2 : epLeave ws m = ws := by
        have hx := epAt_of (List.getElem?_eq_getElem hm)
        rw [hat] at hx
        unfold epLeave; rw [epIs_yes hm]
        show ws.set m none = ws
        rw [hx]; exact List.set_getElem_self hm
      rw [e1, e2]
      refine Calls.mono (R := fun e w' => e = .returned (.int .i64 10) ∧ w' = w) ?_ fun e w' ⟨he, hw⟩ => RfPost.same h he ⟨0, hw⟩
      clear h hset HS hat e1 e2
      go_enter Try.func16, Try.ntmps16
      go_wp2_with (go_at_call 23; refine (rf_there_yes b ws.length m _ _ hn hk h1).mono ?_; rintro e w' ⟨rfl, rfl⟩)
      go_ret
      exact ⟨rfl, rfl⟩
    | some a =>
      rw [hat] at hc
      have ha : (a == 0) = false := by have := ok.at_lo a (epAt_mem hat); simp; omega
      have e1 : epLeaveE ws m = 0 := by unfold epLeaveE; rw [epIs_yes hm, hat]; rfl
      have e2 : epLeave ws m = ws.set m none := by unfold epLeave; rw [epIs_yes hm]; rfl
      rw [e1, e2]
      refine Calls.mono (R := fun e w' => e = .returned (.int .i64 0) ∧ w' = w.setCell ⟨sb, m, none⟩ (.int .u32 0)) ?_ fun e w' ⟨he, hw⟩ => ⟨he, hw ▸ hset, hw ▸ (Mod.refl _ w).setCell (.inl (.inr rfl)) _⟩
      clear h hset HS hat e1 e2
      go_enter Try.func16, Try.ntmps16
      go_wp2_with (go_at_call 23; refine (rf_there_yes b ws.length m _ _ hn hk h1).mono ?_; rintro e w' ⟨rfl, rfl⟩)
      go_ret
      exact ⟨rfl, rfl⟩
  · have hi : epIs ws k = false := by unfold epIs; simpa using hk
    have e1 : epLeaveE ws k = 1 := by unfold epLeaveE; rw [hi]; rfl
    have e2 : epLeave ws k = ws := by unfold epLeave; rw [hi]; rfl
    rw [e1, e2]
    refine Calls.mono (R := fun e w' => e = .returned (.int .i64 1) ∧ w' = w) ?_ fun e w' ⟨he, hw⟩ => RfPost.same h he ⟨0, hw⟩
    clear h e1 e2 hi
    have HK := hide hk
    clear hk
    go_enter Try.func16, Try.ntmps16
    go_wp2_with (go_at_call 23; refine (rf_there_no b ws.length k _ _ hn HK.out h1).mono ?_; rintro e w' ⟨rfl, rfl⟩)
    go_ret
    exact ⟨rfl, rfl⟩

set_option maxHeartbeats 400000 in
theorem Rf.enter_ (h : Rf w b sb now ws) (ok : EpOk now ws) (k : Int) :
    Calls Try.prog 15 #[.pointer (some ⟨b, 0, none⟩), .int .i64 k] w (RfPost w b sb (.tuple #[.int .u32 (epEnterN now ws k), .int .i64 (epEnterE ws k)]) now (epEnter now ws k)) := by
  have hn := ok.len
  have h0 : w.cell? ⟨b, 0, none⟩ = some (.int .u32 now) := h.head.cell 0
  have h1 : w.cell? ⟨b, 1, none⟩ = some (.slice (some ⟨sb, 0, none⟩) ws.length ws.length) := h.head.cell 1
  by_cases hk : 0 ≤ k ∧ k < ws.length
  · obtain ⟨m, rfl⟩ := Int.eq_ofNat_of_zero_le hk.1
    have hm : m < ws.length := by omega
    have hk2 : (m : Int) < (ws.length : Int) := hk.2
    have hc := h.cell hm
    have hf : w.frozen? ⟨sb, m, none⟩ = false := h.row.frozen m
    have hset := h.set_ m (some now)
    have hne := h.ne_
    cases hat : epAt ws m with
    | none =>
      rw [hat] at hc
      have e1 : epEnterN now ws m = now := by unfold epEnterN; rw [epIs_yes hm, hat]; rfl
      have e2 : epEnterE ws m = 0 := by unfold epEnterE; rw [epIs_yes hm, hat]; rfl
      have e3 : epEnter now ws m = ws.set m (some now) := by unfold epEnter; rw [epIs_yes hm, hat]; rfl
      rw [e1, e2, e3]
      refine Calls.mono (R := fun e w' => e = .returned (.tuple #[.int .u32 now, .int .i64 0]) ∧ Like w' (w.setCell ⟨sb, m, none⟩ (.int .u32 now))) ?_ fun e w' ⟨he, hw⟩ => ⟨he, ?_, ?_⟩
      · clear h hset hat e1 e2 e3
        go_enter Try.func15, Try.ntmps15
        go_wp2_with (go_at_call 23; refine (rf_there_yes b ws.length m _ _ hn hk h1).mono ?_; rintro e w' ⟨rfl, rfl⟩)
        go_region
        all_goals
          go_wp2
          go_ret2
          exact ⟨rfl, rfl, rfl, rfl, rfl⟩
      · exact hset.keep (by rw [hw.1]; rfl) (by rw [hw.1]; rfl)
      · exact ((Mod.refl _ w).setCell (p := ⟨sb, m, none⟩) (.inl (.inr rfl)) (.int .u32 now)).like hw
    | some a =>
      rw [hat] at hc
      have ha : (a == 0) = false := by have := ok.at_lo a (epAt_mem hat); simp; omega
      have ha2 : (a != 0) = true := by rw [bne, ha]; rfl
      have e1 : epEnterN now ws m = 0 := by unfold epEnterN; rw [epIs_yes hm, hat]; rfl
      have e2 : epEnterE ws m = 10 := by unfold epEnterE; rw [epIs_yes hm, hat]; rfl
      have e3 : epEnter now ws m = ws := by unfold epEnter; rw [epIs_yes hm, hat]; rfl
      rw [e1, e2, e3]
      refine Calls.mono (R := fun e w' => e = .returned (.tuple #[.int .u32 0, .int .i64 10]) ∧ w' = w) ?_ fun e w' ⟨he, hw⟩ => RfPost.same h he ⟨0, hw⟩
      clear h hset hat e1 e2 e3
      go_enter Try.func15, Try.ntmps15
      go_wp2_with (go_at_call 23; refine (rf_there_yes b ws.length m _ _ hn hk h1).mono ?_; rintro e w' ⟨rfl, rfl⟩)
      go_ret2
      exact ⟨rfl, rfl⟩
  · have hi : epIs ws k = false := by unfold epIs; simpa using hk
    have e1 : epEnterN now ws k = 0 := by unfold epEnterN; rw [hi]; rfl
    have e2 : epEnterE ws k = 1 := by unfold epEnterE; rw [hi]; rfl
    have e3 : epEnter now ws k = ws := by unfold epEnter; rw [hi]; rfl
    rw [e1, e2, e3]
    refine Calls.mono (R := fun e w' => e = .returned (.tuple #[.int .u32 0, .int .i64 1]) ∧ w' = w) ?_ fun e w' ⟨he, hw⟩ => RfPost.same h he ⟨0, hw⟩
    clear h e1 e2 e3 hi
    have HK := hide hk
    clear hk
    go_enter Try.func15, Try.ntmps15
    go_wp2_with (go_at_call 23; refine (rf_there_no b ws.length k _ _ hn HK.out h1).mono ?_; rintro e w' ⟨rfl, rfl⟩)
    go_ret2
    exact ⟨rfl, rfl⟩

theorem Rf.in_ (h : Rf w b sb now ws) (ok : EpOk now ws) (k : Int) :
    Calls Try.prog 19 #[.pointer (some ⟨b, 0, none⟩), .int .i64 k] w fun e w' => e = .returned (.tuple #[.int .u32 ((epAt ws k).getD 0), .bool (epAt ws k).isSome]) ∧ w' = w := by
  have hn := ok.len
  have h1 : w.cell? ⟨b, 1, none⟩ = some (.slice (some ⟨sb, 0, none⟩) ws.length ws.length) := h.head.cell 1
  by_cases hk : 0 ≤ k ∧ k < ws.length
  · obtain ⟨m, rfl⟩ := Int.eq_ofNat_of_zero_le hk.1
    have hm : m < ws.length := by omega
    have hk2 : (m : Int) < (ws.length : Int) := hk.2
    have hc := h.cell hm
    cases hat : epAt ws m with
    | none =>
      rw [hat] at hc
      clear h hat
      go_enter Try.func19, Try.ntmps19
      go_wp2_with (go_at_call 23; refine (rf_there_yes b ws.length m _ _ hn hk h1).mono ?_; rintro e w' ⟨rfl, rfl⟩)
      go_ret2
      exact ⟨rfl, rfl⟩
    | some a =>
      rw [hat] at hc
      have ha : (a == 0) = false := by have := ok.at_lo a (epAt_mem hat); simp; omega
      clear h hat
      go_enter Try.func19, Try.ntmps19
      go_wp2_with (go_at_call 23; refine (rf_there_yes b ws.length m _ _ hn hk h1).mono ?_; rintro e w' ⟨rfl, rfl⟩)
      go_ret2
      exact ⟨rfl, rfl⟩
  · have hx : epAt ws k = none := by unfold epAt epIs; rw [if_neg (by simpa using hk)]
    rw [hx]
    clear h hx
    have HK := hide hk
    clear hk
    go_enter Try.func19, Try.ntmps19
    go_wp2_with (go_at_call 23; refine (rf_there_no b ws.length k _ _ hn HK.out h1).mono ?_; rintro e w' ⟨rfl, rfl⟩)
    go_ret2
    exact ⟨rfl, rfl⟩

/-- The least, reckoned one lower. -/
def rfStep (n : Int) (x : Option Int) : Int := match x with | some a => (if a - 1 < n then a - 1 else n) | none => n
theorem rfFold (ws : List (Option Int)) : ∀ n : Int, ws.foldl rfStep (n - 1) = ws.foldl epStep n - 1 := by
  induction ws with
  | nil => intro n; rfl
  | cons x xs ih =>
    intro n
    have : rfStep (n - 1) x = epStep n x - 1 := by
      cases x with
      | none => rfl
      | some a => simp only [rfStep, epStep]; split <;> split <;> omega
    simp only [List.foldl_cons]
    rw [this, ih]

theorem Rf.safe_ (h : Rf w b sb now ws) (ok : EpOk now ws) :
    Calls Try.prog 20 #[.pointer (some ⟨b, 0, none⟩)] w fun e w' => e = .returned (.int .u32 (epSafe now ws)) ∧ w' = w := by
  have hn := ok.len
  have hlo := ok.lo
  have hhi := ok.hi
  have h0 : w.cell? ⟨b, 0, none⟩ = some (.int .u32 now) := h.head.cell 0
  have h1 : w.cell? ⟨b, 1, none⟩ = some (.slice (some ⟨sb, 0, none⟩) ws.length ws.length) := h.head.cell 1
  have hfin : Hid (epSafe now ws = ws.foldl rfStep (now - 1)) := by rw [rfFold]; exact rfl
  go_enter Try.func20, Try.ntmps20
  go_wp2
  go_loop [3, 4] (fun n i => ∃ k : Nat, k ≤ ws.length ∧ i = .int .i64 k ∧ n = .int .u32 ((ws.take k).foldl rfStep (now - 1))) (fun _ i => ws.length - (intOf i).toNat)
  case atStart => exact ⟨0, Nat.zero_le _, rfl, rfl⟩
  case round =>
    obtain ⟨k, hk, rfl, rfl⟩ := hrel
    by_cases hlt : k < ws.length
    · have hc := h.cell hlt
      have HS : Hid ((ws.take (k + 1)).foldl rfStep (now - 1) = rfStep ((ws.take k).foldl rfStep (now - 1)) ws[k]) := by
        rw [List.take_succ_eq_append_getElem hlt, List.foldl_append]; exact rfl
      generalize hg : (ws.take k).foldl rfStep (now - 1) = n0 at *
      clear hg
      have hx := epAt_of (List.getElem?_eq_getElem hlt)
      cases hat : epAt ws k with
      | none =>
        rw [hat] at hc hx
        have HX := hide hx
        clear hx hat h
        go_wp2
        go_round
        case rel => exact ⟨k + 1, by omega, by go_num, by rw [HS.out, ← HX.out]; rfl⟩
        case measure => simp [intOf]; omega
      | some a =>
        rw [hat] at hc hx
        have ha1 := ok.at_lo a (epAt_mem hat)
        have ha2 := ok.at_hi a (epAt_mem hat)
        have ha : (a != 0) = true := by rw [bne_iff_ne]; omega
        have HX := hide hx
        clear hx hat h
        go_wp2
        go_round
        case rel => exact ⟨k + 1, by omega, by go_num, by rw [HS.out, ← HX.out]; rfl⟩
        case measure => simp [intOf]; omega
    · have : k = ws.length := by omega
      subst this
      go_wp2
      go_ret
      exact ⟨ret_int (by rw [hfin.out]), rfl⟩

/-- All that are in are in at the epoch as it is. -/
def rfAll (now : Int) (ws : List (Option Int)) : Bool := ws.all fun x => match x with | some a => decide (a = now) | none => true
theorem rfAll_iff (h : EpOk now ws) : rfAll now ws = decide (now ≤ epLeast now ws) := by
  rw [Bool.eq_iff_iff]
  simp only [rfAll, List.all_eq_true, decide_eq_true_eq]
  constructor
  · intro ha
    refine epLeast_ge (Int.le_refl _) fun a hm => ?_
    have := ha _ hm
    simp at this; omega
  · intro hl x hx
    cases x with
    | none => rfl
    | some a =>
      have h1 := epLeast_mem (now := now) hx
      have h2 := h.at_hi a hx
      simp; omega

set_option maxHeartbeats 400000 in
theorem Rf.advance_ (h : Rf w b sb now ws) (ok : EpOk now ws) :
    Calls Try.prog 17 #[.pointer (some ⟨b, 0, none⟩)] w (RfPost w b sb (.bool (epMay now ws)) (epAdvance now ws) ws) := by
  have hn := ok.len
  have hlo := ok.lo
  have hhi := ok.hi
  have h0 : w.cell? ⟨b, 0, none⟩ = some (.int .u32 now) := h.head.cell 0
  have h1 : w.cell? ⟨b, 1, none⟩ = some (.slice (some ⟨sb, 0, none⟩) ws.length ws.length) := h.head.cell 1
  have hf : w.frozen? ⟨b, 0, none⟩ = false := h.head.frozen 0
  have hno : Hid (∀ (k : Nat) (a : Int), ws[k]? = some (some a) → a ≠ now → epMay now ws = false ∧ epAdvance now ws = now) := by
    intro k a hk hne
    have hm := List.mem_of_getElem? hk
    have h2 := epLeast_mem (now := now) hm
    have h3 := ok.at_hi a hm
    have : epMay now ws = false := by unfold epMay; simp; omega
    exact ⟨this, by unfold epAdvance; rw [this]; rfl⟩
  have hmax : Hid (now = 4294967295 → epMay now ws = false ∧ epAdvance now ws = now) := by
    intro he
    have : epMay now ws = false := by unfold epMay; simp; omega
    exact ⟨this, by unfold epAdvance; rw [this]; rfl⟩
  have hyes : Hid ((∀ (k : Nat) (a : Int), ws[k]? = some (some a) → a = now) → now ≠ 4294967295 → epMay now ws = true ∧ epAdvance now ws = now + 1) := by
    intro ha hne
    have : now ≤ epLeast now ws := epLeast_ge (Int.le_refl _) fun a hm => by
      obtain ⟨k, hk, hka⟩ := List.getElem_of_mem hm
      have := ha k a (by rw [List.getElem?_eq_getElem hk, hka]); omega
    have : epMay now ws = true := by unfold epMay; simp; omega
    exact ⟨this, by unfold epAdvance; rw [this]; rfl⟩
  have hset : Hid (∀ n, Rf ((w.drewN n).setCell ⟨b, 0, none⟩ (.int .u32 (now + 1))) b sb (now + 1) ws) := fun n => ⟨by have := (h.head.drewN n).set_ 0 (.int .u32 (now + 1)); simpa using this, h.row.far (w := w.drewN n) (p := ⟨b, 0, none⟩) h.ne_.symm _⟩
  have HH := hide h
  go_enter Try.func17, Try.ntmps17
  go_wp2
  go_loopw [3] (fun i wr => ∃ (k n : Nat), i = .int .i64 k ∧ k ≤ ws.length ∧ wr = w.drewN n ∧ Hid (∀ (j : Nat) (a : Int), j < k → ws[j]? = some (some a) → a = now)) (fun i _ => ws.length - (intOf i).toNat)
  case atStart => exact ⟨0, 0, rfl, Nat.zero_le _, rfl, fun j a hj => by omega⟩
  case round =>
    obtain ⟨k, n, rfl, hk, rfl, hall⟩ := hrel
    by_cases hlt : k < ws.length
    · have hc := h.cell hlt
      have hx := epAt_of (List.getElem?_eq_getElem hlt)
      have hxi : (k : Int) < (ws.length : Int) := by omega
      cases hat : epAt ws k with
      | none =>
        rw [hat] at hc hx
        have HX := hide hx
        have hd : ((0 : Int) != 0) = false := rfl
        clear hx hat h
        go_wp2
        go_quiet (fail)
        go_wp2
        go_roundw
        case rel => exact ⟨k + 1, _, by go_num, by omega, rfl, fun j a hj hja => by
          by_cases e : j = k
          · subst e; rw [List.getElem?_eq_getElem hlt, ← HX.out] at hja; cases hja
          · exact hall.out j a (by omega) hja⟩
        case measure => simp [intOf]; omega
      | some a =>
        rw [hat] at hc hx
        have ha1 := ok.at_lo a (epAt_mem hat)
        have ha2 := ok.at_hi a (epAt_mem hat)
        have ha : (a != 0) = true := by rw [bne_iff_ne]; omega
        have HX := hide hx
        clear hx hat h
        by_cases hne : a = now
        · subst hne
          have hd : (a != a) = false := by simp
          go_wp2
          go_quiet (fail)
          go_wp2
          go_roundw
          case rel => exact ⟨k + 1, _, by go_num, by omega, rfl, fun j a2 hj hja => by
            by_cases e : j = k
            · subst e; rw [List.getElem?_eq_getElem hlt, ← HX.out] at hja; injection hja with hja; injection hja with hja; exact hja.symm
            · exact hall.out j a2 (by omega) hja⟩
          case measure => simp [intOf]; omega
        · have hd : (a != now) = true := by rw [bne_iff_ne]; exact hne
          obtain ⟨e1, e2⟩ := hno.out k a (by rw [List.getElem?_eq_getElem hlt, ← HX.out]) hne
          have E1 := hide e1
          have E2 := hide e2
          clear e1 e2
          go_wp2
          go_quiet (fail)
          go_wp2
          go_ret
          rw [E1.out, E2.out]
          exact RfPost.same HH.out rfl ⟨n + nq, World.drewN_drewN _ _ _⟩
    · obtain rfl : k = ws.length := by omega
      by_cases he : now = 4294967295
      · have hd : (now == 4294967295) = true := by simpa using he
        obtain ⟨e1, e2⟩ := hmax.out he
        have E1 := hide e1
        have E2 := hide e2
        clear e1 e2 he h
        go_wp2
        go_ret
        rw [E1.out, E2.out]
        exact RfPost.same HH.out rfl ⟨n, rfl⟩
      · have hd : (now == 4294967295) = false := by simpa using he
        have hlt2 : now < 4294967295 := by omega
        obtain ⟨e1, e2⟩ := hyes.out (fun j a hj => hall.out j a (List.getElem?_eq_some_iff.1 hj).1 hj) he
        have E1 := hide e1
        have E2 := hide e2
        clear e1 e2 he h
        go_wp2
        go_ret
        rw [E1.out, E2.out]
        exact ⟨rfl, hset.out _, ((Mod.refl _ w).drewN _).setCell (.inl (.inl rfl)) _⟩

theorem rf_new (w : World) (n : Nat) (t : Int) (h1 : 1 ≤ n) (h8 : n ≤ 8) (ht : 1 ≤ t) :
    Calls Try.prog 14 #[.int .i64 n, .int .u32 t] w fun e w' => e = .returned (.tuple #[.pointer (some ⟨w.heap.size + 1, 0, none⟩), .int .i64 0]) ∧
      w' = (w.alloc (.cells (madeCells #[.int .u32 0] n) 22)).alloc (.cells #[.int .u32 t, .slice (some ⟨w.heap.size, 0, none⟩) n n] 43) := by
  have ht0 : (t == 0) = false := by simp; omega
  have hmk := run_make_row' (P := Try.prog) 41 22 (.int .u32 0) 4 Try.underlying41 (by kernel_rfl) rfl .i64 .i64 n (by omega) (by omega)
  go_enter Try.func14, Try.ntmps14
  go_wp2
  go_ret2
  exact ⟨rfl, rfl⟩
theorem rf_made (w : World) (n : Nat) (t : Int) : Rf ((w.alloc (.cells (madeCells #[.int .u32 0] n) 22)).alloc (.cells #[.int .u32 t, .slice (some ⟨w.heap.size, 0, none⟩) n n] 43)) (w.heap.size + 1) w.heap.size t (List.replicate n none) := by
  refine ⟨?_, ?_⟩
  · have := Blk.new (w.alloc (.cells (madeCells #[.int .u32 0] n) 22)) 43 #[.int .u32 t, .slice (some ⟨w.heap.size, 0, none⟩) n n]
    simpa using this
  · have := (Blk.new w 22 (madeCells #[.int .u32 0] n)).alloc (.cells #[.int .u32 t, .slice (some ⟨w.heap.size, 0, none⟩) n n] 43)
    rw [made_one] at this
    rw [made_one]
    simpa [rfVal] using this
theorem rf_new_no (n : Int) (t : Int) (w : World) (h : (n < 1 ∨ 8 < n) ∨ t = 0) :
    Calls Try.prog 14 #[.int .i64 n, .int .u32 t] w fun e w' => e = .returned (.tuple #[.pointer none, .int .i64 1]) ∧ w' = w := by
  by_cases h1 : n < 1
  · go_enter Try.func14, Try.ntmps14
    go_wp2
    go_ret2
    exact ⟨rfl, rfl⟩
  by_cases h8 : 8 < n
  · go_enter Try.func14, Try.ntmps14
    go_wp2
    go_ret2
    exact ⟨rfl, rfl⟩
  have ht0 : (t == 0) = true := by simp; omega
  clear h
  go_enter Try.func14, Try.ntmps14
  go_wp2
  go_ret2
  exact ⟨rfl, rfl⟩
end
end Go.Proofs.Ytpdifebbbolheaa
