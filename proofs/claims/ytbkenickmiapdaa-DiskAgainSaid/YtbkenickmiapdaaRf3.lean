/- DERIVED. The document's disk: put. -/
import Derived.Test.YtbkenickmiapdaaRf2
namespace Go.Proofs.Ytbkenickmiapdaa
set_option linter.unusedVariables false
set_option linter.unusedSimpArgs false
open Go.RowKit

theorem del_all {α : Type} {n : Nm} {l : List (Nm × α)} (h : ∀ p ∈ l, p.1 ≠ n) : fDel n l = l := del_none h
theorem less_before : ∀ (a b : Nm), Op.bytesLess a b = bytesBefore a b
  | [], [] => rfl
  | [], _ :: _ => rfl
  | _ :: _, [] => rfl
  | a :: r, b :: s => by simp only [Op.bytesLess, bytesBefore, less_before r s]
theorem not_before {a b : Nm} (h : bytesBefore a b = true) : bytesBefore b a = false := by
  cases hb : bytesBefore b a with
  | false => rfl
  | true => have := Go.WideShapes.bytes_trans _ _ _ h hb; rw [Go.WideAt.bytes_irrefl] at this; cases this
/-- What put does, by its place. -/
theorem put_at {α : Type} {n : Nm} {v : α} : ∀ {l : List (Nm × α)} {k : Nat}, fSort l → k ≤ l.length → (∀ (j : Nat) (h : j < l.length), j < k → bytesBefore l[j].1 n = true) → (∀ h : k < l.length, bytesBefore l[k].1 n = false) →
    ∀ (r : List (Nm × α)), (if (l[k]?.map fun p => p.1 == n) = some true then l.drop (k + 1) else l.drop k) = r → fPut n v l = l.take k ++ (n, v) :: r
  | [], k, _, hk, _, _, r, hr => by
    have : k = 0 := by simpa using hk
    subst this
    simp at hr
    subst hr
    rfl
  | y :: l, 0, hs, _, _, h2, r, hr => by
    obtain ⟨s1, s2⟩ := List.pairwise_cons.1 hs
    have hnb : bytesBefore y.1 n = false := h2 (by simp)
    simp only [List.getElem?_cons_zero, Option.map_some] at hr
    by_cases e : y.1 = n
    · rw [if_pos (by simpa using e)] at hr
      simp only [Nat.zero_add, List.drop_succ_cons, List.drop_zero] at hr
      subst hr; subst e
      have hd : fDel y.1 (y :: l) = l := by
        have : fDel y.1 l = l := del_none fun p hp => (before_ne (s1 p hp)).symm
        unfold fDel at this ⊢
        simp only [List.filter_cons]
        simpa using this
      unfold fPut
      rw [hd]
      cases l with
      | nil => rfl
      | cons q l => simp [fIns, s1 q (by simp)]
    · rw [if_neg (by simpa using e)] at hr
      simp only [List.drop_zero] at hr
      subst hr
      have hb : bytesBefore n y.1 = true := by
        rcases Go.WideAt.bytes_total n y.1 (Ne.symm e) with h | h
        · exact h
        · rw [hnb] at h; cases h
      have hd : fDel n (y :: l) = y :: l := del_none fun p hp => by
        rcases List.mem_cons.1 hp with rfl | hp
        · exact e
        · exact (before_ne (Go.WideShapes.bytes_trans _ _ _ hb (s1 p hp))).symm
      unfold fPut
      rw [hd]
      simp [fIns, hb]
  | y :: l, k + 1, hs, hk, h1, h2, r, hr => by
    obtain ⟨s1, s2⟩ := List.pairwise_cons.1 hs
    have hb : bytesBefore y.1 n = true := h1 0 (by simp) (by omega)
    have hne : y.1 ≠ n := before_ne hb
    have ih := put_at (n := n) (v := v) (l := l) (k := k) s2 (by simpa using hk) (fun j hj hjk => h1 (j + 1) (by simpa using hj) (by omega)) (fun h => h2 (by simpa using h)) r (by simpa using hr)
    have hd : fDel n (y :: l) = y :: fDel n l := by
      unfold fDel
      rw [List.filter_cons_of_pos (by simpa using hne)]
    unfold fPut at ih ⊢
    rw [hd]
    simp only [fIns, not_before hb, List.take_succ_cons, List.cons_append]
    rw [ih]
    simp

section
variable {w w' : World} {b c : Nat} {A : Option Addr} {d : DS} {B size n : Nat} {xs : List Value}
set_option maxRecDepth 100000 in
set_option maxHeartbeats 8000000 in
theorem rf_put_some (g : Nat) (nm : Nm) (v : DF) (h : RfAt w b (some ⟨g, 0, none⟩) c d) (hs : fSort d.l) (hl : d.l.length ≤ 1000000) :
    Calls Try.prog 40 #[.pointer (some ⟨b, 0, none⟩), .agg #[.string ⟨nm.toArray⟩, .string ⟨v.b.toArray⟩, .int .i64 v.s]] w (RfPut w b (fPut nm v d.l)) := by
  have h1 : w.cell? ⟨b, 1, none⟩ = some (.slice (some ⟨g, 0, none⟩) d.l.length c) := h.head.cell 1
  have hf : w.frozen? ⟨b, 1, none⟩ = false := h.head.frozen 1
  obtain ⟨hc1, hc2⟩ := h.cap
  simp only [maxLen] at hc2
  have hbl := h.head.lt
  have HRd := hide h.reads
  have H := hide h
  have hne := World.new_ne w _ h1
  clear h
  go_enter Try.func40, Try.ntmps40
  go_upto_block 0 with (fail)
  obtain ⟨w1, hw1⟩ : ∃ w1, w.alloc (.cells #[.string ⟨nm.toArray⟩, .string ⟨v.b.toArray⟩, .int .i64 v.s] 74) = w1 := ⟨_, rfl⟩
  have E : Env w w1 [cellsO w.heap.size 74 #[.string ⟨nm.toArray⟩, .string ⟨v.b.toArray⟩, .int .i64 v.s]] := by rw [← hw1]; exact (Env.nil (Below.refl _ w)).alloc _ _
  try rw [hw1]
  clear hw1
  generalize hg : w.heap.size = g1 at E
  try rw [hg]
  clear hne hg
  have H1 := hide h1
  have HF := hide hf
  clear h1 hf
  go_cut [4] (fun s4 wr => ∃ k : Nat, s4 = .int .i64 k ∧ k ≤ d.l.length ∧ Hid (∀ (j : Nat) (h : j < d.l.length), j < k → bytesBefore d.l[j].1 nm = true) ∧ Hid (∀ h : k < d.l.length, bytesBefore d.l[k].1 nm = false) ∧ Env w wr [cellsO g1 74 #[.string ⟨nm.toArray⟩, .string ⟨v.b.toArray⟩, .int .i64 v.s]])
  case first =>
    go_wp2_with fail
    go_loopw [4] (fun i wr => ∃ k : Nat, i = .int .i64 k ∧ k ≤ d.l.length ∧ Hid (∀ (j : Nat) (h : j < d.l.length), j < k → bytesBefore d.l[j].1 nm = true) ∧ Env w wr [cellsO g1 74 #[.string ⟨nm.toArray⟩, .string ⟨v.b.toArray⟩, .int .i64 v.s]]) (fun i _ => d.l.length - (intOf i).toNat)
    case atStart => exact ⟨0, rfl, Nat.zero_le _, fun j _ h => absurd h (by omega), E⟩
    case round =>
      clear E
      obtain ⟨k, rfl, hk, hno, E⟩ := hrel
      have hc1 : wr.cell? ⟨b, 1, none⟩ = some (.slice (some ⟨g, 0, none⟩) d.l.length c) := (E.below.cell hbl).trans H1.out
      have f0 : wr.cell? ⟨g1, 0, none⟩ = some (.string ⟨nm.toArray⟩) := E.cell 0
      by_cases hlt : k < d.l.length
      · obtain ⟨g', hA, c0, -, -⟩ := H.out.file hlt
        obtain rfl : g = g' := by injection hA with hA; injection hA
        clear hA
        have hgl : g < w.heap.size := lt_of_cell c0
        have c0' : wr.cell? ⟨g, k * 3, none⟩ = some (.string ⟨d.l[k].1.toArray⟩) := (E.below.cell hgl).trans c0
        clear c0
        obtain ⟨p, hp⟩ : ∃ p : Bool, bytesBefore d.l[k].1 nm = p := ⟨_, rfl⟩
        have HP := hide hp
        generalize hx : d.l[k].1 = x at c0' hp
        have HX := hide hx
        clear hx
        have hp : Op.bytesLess x nm = p := by rw [less_before]; exact hp
        have q1 : decide ((k : Int) < d.l.length) = true := by simpa using hlt
        cases p with
        | true =>
          go_wp2_with fail
          go_quiet (fail)
          go_wp2_with fail
          go_roundw
          case rel =>
            refine ⟨k + 1, by go_num, by omega, fun j hj hjk => ?_, E.drewN nq⟩
            rcases Nat.lt_succ_iff_lt_or_eq.1 hjk with h | h
            · exact hno.out j hj h
            · subst h; exact HP.out
          case measure => simp [intOf]; omega
        | false =>
          go_wp2_with fail
          go_quiet (fail)
          go_wp2_with fail
          go_meet
          case rel => exact ⟨k, rfl, hk, hno, fun _ => HP.out, E.drewN nq⟩
      · have q1 : decide (k < d.l.length) = false := by simpa using hlt
        go_wp2_with fail
        go_quiet (fail)
        go_wp2_with fail
        go_meet
        case rel => exact ⟨k, rfl, hk, hno, fun h => absurd h hlt, E.drewN nq⟩
  case rest =>
    clear E
    obtain ⟨k, rfl, hk, hno, hst, E⟩ := hcut
    have hk0 : (0 : Int) ≤ (k : Int) := by omega
    have hk1 : (k : Int) ≤ (d.l.length : Int) := by omega
    have hk2 : (k : Int) ≤ (c : Int) := by omega
    have PA := @put_at _ nm v d.l k hs hk hno.out hst.out
    have HPP := hide PA
    clear PA hno hst
    have cb : wc.cell? ⟨b, 1, none⟩ = some (.slice (some ⟨g, 0, none⟩) d.l.length c) := (E.below.cell hbl).trans H1.out
    have hdrop : Hid (∀ j, j ≤ d.l.length → Reads w w.heap.size 3 (some ⟨g, j * 3, none⟩) (d.l.length - j) (filesC (d.l.drop j))) := fun j hj => by
      have := HRd.out.tail_ hj
      rwa [filesC_drop _ _ hj] at this
    go_upto_region 4 with (fail)
    go_cut [5] (fun s5 wr => ∃ o m cc : Nat, s5 = .slice (some ⟨g, o, none⟩) m cc ∧ m = d.l.length - k ∧ m ≤ cc ∧ Hid (Reads w w.heap.size 3 (some ⟨g, o, none⟩) m (filesC (d.l.drop k))) ∧ Hid (0 < m → o = k * 3) ∧ Env w wr [cellsO g1 74 #[.string ⟨nm.toArray⟩, .string ⟨v.b.toArray⟩, .int .i64 v.s]])
    case first =>
      by_cases hck : c = k
      · have hnk : d.l.length = k := by omega
        have hz : Hid (Reads w w.heap.size 3 (some ⟨g, 0, none⟩) 0 (filesC (d.l.drop k))) := by
          rw [List.drop_eq_nil_of_le (by omega)]
          exact ⟨rfl, fun h => absurd h (by decide)⟩
        rw [hnk, hck] at cb
        have HNK := hide hnk
        have HK := hide hk
        clear hck hnk hk hk1 hk2 hc1 hc2 H1 H HRd hdrop
        go_wp2_with fail
        go_meet
        case rel => exact ⟨0, 0, 0, by simp, by have := HNK.out; omega, Nat.le_refl _, hz, fun h => absurd h (by decide), E⟩
      · go_wp2_with fail
        go_meet
        case rel => exact ⟨k * 3, d.l.length - k, c - k, by simp, rfl, by omega, hdrop.out k hk, fun _ => rfl, E⟩
    case rest =>
      clear E cb
      obtain ⟨o, m, cc, rfl, hm, hmc, HRm, HO, E⟩ := hcut
      have HM := hide hm
      clear hm
      have HDR := hide (hdrop.out)
      clear hdrop
      go_upto_region 5 with (fail)
      go_cut [45] (fun s45 wr => ∃ p : Bool, s45 = .bool p ∧ Hid ((d.l[k]?.map fun q => q.1 == nm) = some true ↔ p = true) ∧ Hid (p = true → 0 < m) ∧ Env w wr [cellsO g1 74 #[.string ⟨nm.toArray⟩, .string ⟨v.b.toArray⟩, .int .i64 v.s]])
      case first =>
        have f0 : wc.cell? ⟨g1, 0, none⟩ = some (.string ⟨nm.toArray⟩) := E.cell 0
        by_cases hm0 : 0 < m
        · have hkn : k < d.l.length := by have := HM.out; omega
          obtain rfl : o = k * 3 := HO.out hm0
          obtain ⟨g', hA, c0, -, -⟩ := H.out.file hkn
          obtain rfl : g = g' := by injection hA with hA; injection hA
          clear hA
          have c0' : wc.cell? ⟨g, k * 3, none⟩ = some (.string ⟨d.l[k].1.toArray⟩) := (E.below.cell (lt_of_cell c0)).trans c0
          clear c0
          obtain ⟨p, hp⟩ : ∃ p : Bool, (d.l[k].1 == nm) = p := ⟨_, rfl⟩
          have HP : Hid ((d.l[k]?.map fun q => q.1 == nm) = some true ↔ p = true) := by
            rw [List.getElem?_eq_getElem hkn, Option.map_some, hp]
            exact hide (by simp)
          generalize hx : d.l[k].1 = x at c0' hp
          have HX := hide hx
          clear hx
          have q1 : decide (0 < m) = true := by simpa using hm0
          have q2 : (0 : Int) < (m : Int) := by omega
          go_quiet (fail)
          go_wp2_with fail
          go_meet
          case rel => exact ⟨p, rfl, HP, fun _ => hm0, E.drewN nq⟩
        · have hm1 : m = 0 := by omega
          have HP : Hid ((d.l[k]?.map fun q => q.1 == nm) = some true ↔ false = true) := by
            rw [List.getElem?_eq_none (by have := HM.out; omega)]
            exact hide (by simp)
          have q1 : decide (0 < m) = false := by simpa using hm0
          clear hm1
          go_quiet (fail)
          go_wp2_with fail
          go_meet
          case rel => exact ⟨false, rfl, HP, (fun h => by cases h), E.drewN nq⟩
      case rest =>
        clear E
        obtain ⟨p, rfl, HP, HPm, E⟩ := hcut
        go_upto_if 45 with (fail)
        go_cut [5] (fun s5 wr => ∃ (o' m' c' : Nat) (r : List (Nm × DF)), s5 = .slice (some ⟨g, o', none⟩) m' c' ∧ Hid (Reads w w.heap.size 3 (some ⟨g, o', none⟩) m' (filesC r)) ∧ Hid (r.length ≤ d.l.length) ∧ Hid (fPut nm v d.l = d.l.take k ++ (nm, v) :: r) ∧ Env w wr [cellsO g1 74 #[.string ⟨nm.toArray⟩, .string ⟨v.b.toArray⟩, .int .i64 v.s]])
        case first =>
          cases p with
          | false =>
            go_wp2_with fail
            go_meet
            case rel => exact ⟨o, m, cc, d.l.drop k, rfl, HRm, by rw [List.length_drop]; exact hide (by omega), HPP.out _ (by rw [if_neg (by rw [HP.out]; decide)]), E⟩
          | true =>
            have hm0 : 0 < m := HPm.out rfl
            have hkn : k < d.l.length := by have := HM.out; omega
            have e1 := HPP.out _ (by rw [if_pos (HP.out.2 rfl)])
            have E1 := hide e1
            clear e1
            obtain rfl : o = k * 3 := HO.out hm0
            have hr1 := HDR.out (k + 1) (by omega)
            rw [show (k + 1) * 3 = k * 3 + 3 by omega, show d.l.length - (k + 1) = m - 1 by have := HM.out; omega] at hr1
            have HR1 := hide hr1
            have q1 : (1 : Int) ≤ (m : Int) := by omega
            have q2 : (1 : Int) ≤ (cc : Int) := by omega
            have HL : Hid ((d.l.drop (k + 1)).length ≤ d.l.length) := by rw [List.length_drop]; exact hide (by omega)
            clear hr1
            by_cases hc1 : cc = 1
            · have hz : Hid (Reads w w.heap.size 3 (some ⟨g, k * 3, none⟩) 0 (filesC (d.l.drop (k + 1)))) := by
                rw [List.drop_eq_nil_of_le (by have := HM.out; omega)]
                exact ⟨rfl, fun h => absurd h (by decide)⟩
              obtain rfl : m = 1 := by omega
              subst hc1
              go_wp2_with fail
              go_meet
              case rel => exact ⟨k * 3, 0, 0, _, by simp, hz, HL, E1.out, E⟩
            · go_wp2_with fail
              go_meet
              case rel => exact ⟨k * 3 + 3, m - 1, cc - 1, _, by simp, HR1, HL, E1.out, E⟩
        case rest =>
          clear E
          obtain ⟨o', m', c', r, rfl, HRr, HRL, HPA, E⟩ := hcut
          have hrk : Hid (Reads w w.heap.size 3 (some ⟨g, 0, none⟩) k (filesC (d.l.take k))) := by
            have := HRd.out.head_ hk
            rwa [filesC_take] at this
          have hb1 : (([] : List Value).length + (filesC (d.l.take k)).length) * 40 ≤ 140737488355328 := by rw [filesC_len, List.length_take]; simp; omega
          have hb2 : (([] ++ filesC (d.l.take k)).length + (filC (nm, v)).length) * 40 ≤ 140737488355328 := by rw [List.nil_append, filesC_len, List.length_take]; simp [filC]; omega
          have hb3 : ((([] ++ filesC (d.l.take k)) ++ filC (nm, v)).length + (filesC r).length) * 40 ≤ 140737488355328 := by rw [List.nil_append, List.length_append, filesC_len, filesC_len, List.length_take]; have := HRL.out; simp [filC]; omega
          have he : (([] ++ filesC (d.l.take k)) ++ filC (nm, v)) ++ filesC r = filesC (fPut nm v d.l) := by rw [HPA.out, List.nil_append, filesC_app, List.append_assoc]; rfl
          have HB1 := hide hb1
          have HB2 := hide hb2
          have HB3 := hide hb3
          have HE := hide he
          clear hb1 hb2 hb3 he
          have Ea := (E.lit0 74 3).drew
          have hz1 : (wc.alloc (.cells #[] 74)).heap.size = wc.heap.size + 1 := by simp
          have hz2 : (wc.alloc (.cells #[.string ⟨nm.toArray⟩, .string ⟨v.b.toArray⟩, .int .i64 v.s] 74)).heap.size = wc.heap.size + 1 := by simp
          have Eb := (((E.lit0 74 3).alloc 74 #[.string ⟨nm.toArray⟩, .string ⟨v.b.toArray⟩, .int .i64 v.s]).swap).drew
          rw [hz1] at Eb
          have Ec := ((E.alloc 74 #[.string ⟨nm.toArray⟩, .string ⟨v.b.toArray⟩, .int .i64 v.s]).lit0 74 3).drew
          rw [hz2] at Ec
          clear hz1 hz2
          have c0 : wc.cell? ⟨g1, 0, none⟩ = some (.string ⟨nm.toArray⟩) := E.cell 0
          have c1 : wc.cell? ⟨g1, 1, none⟩ = some (.string ⟨v.b.toArray⟩) := E.cell 1
          have c2 : wc.cell? ⟨g1, 2, none⟩ = some (.int .i64 v.s) := E.cell 2
          have cb : wc.cell? ⟨b, 1, none⟩ = some (.slice (some ⟨g, 0, none⟩) d.l.length c) := (E.below.cell hbl).trans H1.out
          have hb0 : b < wc.heap.size := Nat.lt_of_lt_of_le hbl E.size
          have hb1 : b < wc.heap.size + 1 := by omega
          have hg0 : g1 < wc.heap.size := E.blk.lt
          have hg1 : g1 < wc.heap.size + 1 := by omega
          go_wp2_with fail
          go_region_law (first
            | (refine step_append_env rfl (.tmp 49) (.tmp 55) rfl Try.underlying70 file_info rfl (by decide) (by decide) (by rfl) (by rfl) Ea (Ea.arg hrk.out) (filesC_one _) HB1.out ?_
               intro v3 w3 E3
               have d0 : w3.cell? ⟨g1, 0, none⟩ = some (.string ⟨nm.toArray⟩) := E3.swap.cell 0
               have d1 : w3.cell? ⟨g1, 1, none⟩ = some (.string ⟨v.b.toArray⟩) := E3.swap.cell 1
               have d2 : w3.cell? ⟨g1, 2, none⟩ = some (.int .i64 v.s) := E3.swap.cell 2)
            | (refine step_append_env rfl (.tmp 49) (.tmp 55) rfl Try.underlying70 file_info rfl (by decide) (by decide) (by rfl) (by rfl) Eb (Eb.arg hrk.out) (filesC_one _) HB1.out ?_
               intro v3 w3 E3
               have d0 : w3.cell? ⟨g1, 0, none⟩ = some (.string ⟨nm.toArray⟩) := (E3.front 2 rfl).cell 0
               have d1 : w3.cell? ⟨g1, 1, none⟩ = some (.string ⟨v.b.toArray⟩) := (E3.front 2 rfl).cell 1
               have d2 : w3.cell? ⟨g1, 2, none⟩ = some (.int .i64 v.s) := (E3.front 2 rfl).cell 2)
            | (refine step_append_env rfl (.tmp 49) (.tmp 55) rfl Try.underlying70 file_info rfl (by decide) (by decide) (by rfl) (by rfl) Ec (Ec.arg hrk.out) (filesC_one _) HB1.out ?_
               intro v3 w3 E3
               have d0 : w3.cell? ⟨g1, 0, none⟩ = some (.string ⟨nm.toArray⟩) := (E3.front 2 rfl).cell 0
               have d1 : w3.cell? ⟨g1, 1, none⟩ = some (.string ⟨v.b.toArray⟩) := (E3.front 2 rfl).cell 1
               have d2 : w3.cell? ⟨g1, 2, none⟩ = some (.int .i64 v.s) := (E3.front 2 rfl).cell 2)
            | (refine step_append_env rfl (.tmp 56) (.tmp 58) rfl Try.underlying70 file_info rfl (by decide) (by decide) (by rfl) (by rfl) E3 (E3.swap.reads_lit 1 (filC (nm, v)) rfl rfl) (filesC_one [(nm, v)]) HB2.out ?_
               intro v4 w4 E4)
            | (refine step_append_env rfl (.tmp 56) (.tmp 58) rfl Try.underlying70 file_info rfl (by decide) (by decide) (by rfl) (by rfl) (E3.alloc _ _).swap ((E3.alloc _ _).reads_lit 1 (filC (nm, v)) rfl rfl) (filesC_one [(nm, v)]) HB2.out ?_
               intro v4 w4 E4)
            | (refine step_append_env rfl (.tmp 59) (.tmp 60) rfl Try.underlying70 file_info rfl (by decide) (by decide) (by rfl) (by rfl) E4 (E4.arg HRr.out) (filesC_one _) HB3.out ?_
               intro v5 w5 E5
               obtain ⟨n5, hr5⟩ := E5.row
               obtain ⟨A5, c5, rfl, -⟩ := slice_form hr5
               clear hr5
               have cb5 : w5.cell? ⟨b, 1, none⟩ = some (.slice (some ⟨g, 0, none⟩) d.l.length c) := (E5.below.cell hbl).trans H1.out
               have fb5 : w5.frozen? ⟨b, 1, none⟩ = false := (E5.below.frozen hbl).trans HF.out))
          all_goals
            go_end0
            exact ⟨rfl, _, _, HE.out ▸ E5.first, rfl⟩

set_option maxRecDepth 100000 in
set_option maxHeartbeats 8000000 in
theorem rf_put_none (nm : Nm) (v : DF) (hd : d.l = []) (h : RfAt w b none c d) :
    Calls Try.prog 40 #[.pointer (some ⟨b, 0, none⟩), .agg #[.string ⟨nm.toArray⟩, .string ⟨v.b.toArray⟩, .int .i64 v.s]] w (RfPut w b (fPut nm v d.l)) := by
  obtain ⟨lim, l, down⟩ := d
  simp only at hd
  subst hd
  have hc0 : c = 0 := by
    rcases h.row.2 with ⟨h1, h2⟩ | ⟨g, cap, cur, hv, hg, hh, h3, h4, h5⟩
    · injection h1
    · cases hv
  subst hc0
  have h1 : w.cell? ⟨b, 1, none⟩ = some (.slice none 0 0) := h.head.cell 1
  have hf : w.frozen? ⟨b, 1, none⟩ = false := h.head.frozen 1
  have hbl := h.head.lt
  clear h
  have E0 : Env w (w.alloc (.cells #[.string ⟨nm.toArray⟩, .string ⟨v.b.toArray⟩, .int .i64 v.s] 74)) [cellsO w.heap.size 74 #[.string ⟨nm.toArray⟩, .string ⟨v.b.toArray⟩, .int .i64 v.s]] := (Env.nil (Below.refl _ w)).alloc _ _
  have HF := hide hf
  have he : (([] ++ filesC []) ++ filC (nm, v)) ++ filesC [] = filesC (fPut nm v []) := rfl
  have HE := hide he
  have hb1 : (([] : List Value).length + (filesC []).length) * 40 ≤ 140737488355328 := by decide
  have hb2 : (([] ++ filesC []).length + (filC (nm, v)).length) * 40 ≤ 140737488355328 := by simp [filC, filesC]
  have hb3 : ((([] ++ filesC []) ++ filC (nm, v)).length + (filesC []).length) * 40 ≤ 140737488355328 := by simp [filC, filesC]
  have HB1 := hide hb1
  have HB2 := hide hb2
  have HB3 := hide hb3
  have hrk : ∀ w' : World, Reads w' w'.heap.size 3 none 0 (filesC []) := fun w' => Reads.none_
  have HRK := hide hrk
  clear hb1 hb2 hb3 he hf hrk
  go_enter Try.func40, Try.ntmps40
  go_wp2_with fail
  generalize hw1 : w.alloc (.cells #[.string ⟨nm.toArray⟩, .string ⟨v.b.toArray⟩, .int .i64 v.s] 74) = w1 at *
  generalize hg : w.heap.size = g1 at E0
  try rw [hg]
  have H1 := hide h1
  clear hg hw1 h1
  go_loopw [4] (fun i wr => i = .int .i64 0 ∧ Env w wr [cellsO g1 74 #[.string ⟨nm.toArray⟩, .string ⟨v.b.toArray⟩, .int .i64 v.s]]) (fun i _ => 0)
  case atStart => exact ⟨rfl, E0⟩
  case round =>
    clear E0
    obtain ⟨rfl, E⟩ := hrel
    have hc1 : wr.cell? ⟨b, 1, none⟩ = some (.slice none 0 0) := (E.below.cell hbl).trans H1.out
    have f0 : wr.cell? ⟨g1, 0, none⟩ = some (.string ⟨nm.toArray⟩) := E.cell 0
    go_wp2_with fail
    go_quiet (fail)
    replace E := E.drewN nq
    replace hc1 : (wr.drewN nq).cell? ⟨b, 1, none⟩ = some (.slice none 0 0) := hc1
    replace f0 : (wr.drewN nq).cell? ⟨g1, 0, none⟩ = some (.string ⟨nm.toArray⟩) := f0
    generalize wr.drewN nq = wx at *
    go_wp2_with fail
    go_quiet (fail)
    clear hc1 f0
    replace E := E.drewN nq
    generalize wx.drewN nq = wc at *
    go_wp2_with fail
    have Ea := (E.lit0 74 3).drew
    have hz1 : (wc.alloc (.cells #[] 74)).heap.size = wc.heap.size + 1 := by simp
    have hz2 : (wc.alloc (.cells #[.string ⟨nm.toArray⟩, .string ⟨v.b.toArray⟩, .int .i64 v.s] 74)).heap.size = wc.heap.size + 1 := by simp
    have Eb := (((E.lit0 74 3).alloc 74 #[.string ⟨nm.toArray⟩, .string ⟨v.b.toArray⟩, .int .i64 v.s]).swap).drew
    rw [hz1] at Eb
    have Ec := ((E.alloc 74 #[.string ⟨nm.toArray⟩, .string ⟨v.b.toArray⟩, .int .i64 v.s]).lit0 74 3).drew
    rw [hz2] at Ec
    clear hz1 hz2
    have c0 : wc.cell? ⟨g1, 0, none⟩ = some (.string ⟨nm.toArray⟩) := E.cell 0
    have c1 : wc.cell? ⟨g1, 1, none⟩ = some (.string ⟨v.b.toArray⟩) := E.cell 1
    have c2 : wc.cell? ⟨g1, 2, none⟩ = some (.int .i64 v.s) := E.cell 2
    have cb : wc.cell? ⟨b, 1, none⟩ = some (.slice none 0 0) := (E.below.cell hbl).trans H1.out
    have hb0 : b < wc.heap.size := Nat.lt_of_lt_of_le hbl E.size
    have hb1 : b < wc.heap.size + 1 := by omega
    have hg0 : g1 < wc.heap.size := E.blk.lt
    have hg1 : g1 < wc.heap.size + 1 := by omega
    go_region_law (first
      | (refine step_append_env rfl (.tmp 49) (.tmp 55) rfl Try.underlying70 file_info rfl (by decide) (by decide) (by rfl) (by rfl) Ea (Ea.arg (HRK.out w)) (filesC_one _) HB1.out ?_
         intro v3 w3 E3
         have d0 : w3.cell? ⟨g1, 0, none⟩ = some (.string ⟨nm.toArray⟩) := E3.swap.cell 0
         have d1 : w3.cell? ⟨g1, 1, none⟩ = some (.string ⟨v.b.toArray⟩) := E3.swap.cell 1
         have d2 : w3.cell? ⟨g1, 2, none⟩ = some (.int .i64 v.s) := E3.swap.cell 2)
      | (refine step_append_env rfl (.tmp 49) (.tmp 55) rfl Try.underlying70 file_info rfl (by decide) (by decide) (by rfl) (by rfl) Eb (Eb.arg (HRK.out w)) (filesC_one _) HB1.out ?_
         intro v3 w3 E3
         have d0 : w3.cell? ⟨g1, 0, none⟩ = some (.string ⟨nm.toArray⟩) := (E3.front 2 rfl).cell 0
         have d1 : w3.cell? ⟨g1, 1, none⟩ = some (.string ⟨v.b.toArray⟩) := (E3.front 2 rfl).cell 1
         have d2 : w3.cell? ⟨g1, 2, none⟩ = some (.int .i64 v.s) := (E3.front 2 rfl).cell 2)
      | (refine step_append_env rfl (.tmp 49) (.tmp 55) rfl Try.underlying70 file_info rfl (by decide) (by decide) (by rfl) (by rfl) Ec (Ec.arg (HRK.out w)) (filesC_one _) HB1.out ?_
         intro v3 w3 E3
         have d0 : w3.cell? ⟨g1, 0, none⟩ = some (.string ⟨nm.toArray⟩) := (E3.front 2 rfl).cell 0
         have d1 : w3.cell? ⟨g1, 1, none⟩ = some (.string ⟨v.b.toArray⟩) := (E3.front 2 rfl).cell 1
         have d2 : w3.cell? ⟨g1, 2, none⟩ = some (.int .i64 v.s) := (E3.front 2 rfl).cell 2)
      | (refine step_append_env rfl (.tmp 56) (.tmp 58) rfl Try.underlying70 file_info rfl (by decide) (by decide) (by rfl) (by rfl) E3 (E3.swap.reads_lit 1 (filC (nm, v)) rfl rfl) (filesC_one [(nm, v)]) HB2.out ?_
         intro v4 w4 E4)
      | (refine step_append_env rfl (.tmp 56) (.tmp 58) rfl Try.underlying70 file_info rfl (by decide) (by decide) (by rfl) (by rfl) (E3.alloc _ _).swap ((E3.alloc _ _).reads_lit 1 (filC (nm, v)) rfl rfl) (filesC_one [(nm, v)]) HB2.out ?_
         intro v4 w4 E4)
      | (refine step_append_env rfl (.tmp 59) (.tmp 60) rfl Try.underlying70 file_info rfl (by decide) (by decide) (by rfl) (by rfl) E4 (E4.arg (HRK.out w)) (filesC_one _) HB3.out ?_
         intro v5 w5 E5
         obtain ⟨n5, hr5⟩ := E5.row
         obtain ⟨A5, c5, rfl, -⟩ := slice_form hr5
         clear hr5
         have cb5 : w5.cell? ⟨b, 1, none⟩ = some (.slice none 0 0) := (E5.below.cell hbl).trans H1.out
         have fb5 : w5.frozen? ⟨b, 1, none⟩ = false := (E5.below.frozen hbl).trans HF.out))
    all_goals
      go_end0
      exact ⟨rfl, _, _, HE.out ▸ E5.first, rfl⟩
end
end Go.Proofs.Ytbkenickmiapdaa
