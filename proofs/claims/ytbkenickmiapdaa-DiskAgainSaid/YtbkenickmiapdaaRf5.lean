/- DERIVED. The document's disk: List, Crash, Copy. -/
import Derived.Test.YtbkenickmiapdaaRf4
namespace Go.Proofs.Ytbkenickmiapdaa
set_option linter.unusedVariables false
set_option linter.unusedSimpArgs false
open Go.RowKit

theorem strV_one (l : List Nm) : ∀ u ∈ l.map strV, u.oneCell' = true := by
  intro u hu
  obtain ⟨p, _, rfl⟩ := List.mem_map.1 hu
  rfl
/-- Behind List. -/
def RfNames (w : World) (ns : List Nm) (e : Ending) (w' : World) : Prop :=
  ∃ A c, e = .returned (.slice A ns.length c) ∧ Env w w' [rowO 9 1 (.slice A ns.length c) (ns.map strV)]

section
variable {w w' w1 : World} {b c : Nat} {A : Option Addr} {d d' : DS}
set_option maxRecDepth 100000 in
set_option maxHeartbeats 1000000 in
theorem rf_list (h : RfAt w b A c d) (hl : d.l.length ≤ 1000000) :
    Calls Try.prog 44 #[.pointer (some ⟨b, 0, none⟩)] w (RfNames w (dList d)) := by
  have H := hide h
  have hbl := h.head.lt
  have E0 := ((Env.nil (Below.refl _ w)).lit0 9 1)
  cases hd : d.down with
  | true =>
    have hL : dList d = [] := by unfold dList; rw [hd]; rfl
    rw [hL]
    have h2 : w.cell? ⟨b, 2, none⟩ = some (.bool d.down) := h.head.cell 2
    have h1 : w.cell? ⟨b, 1, none⟩ = some (.slice A d.l.length c) := h.head.cell 1
    rw [hd] at h2
    clear hd h hL
    have hr : RfNames w [] (.returned (.slice (some ⟨w.heap.size, 0, none⟩) 0 0)) (w.alloc (.cells #[] 9)) := ⟨_, _, rfl, E0⟩
    have HR := hide hr
    clear hr E0
    go_enter Try.func44, Try.ntmps44
    go_wp2
    go_loop [3, 4] (fun v i => v = .slice (some ⟨w.heap.size, 0, none⟩) 0 0 ∧ i = .int .i64 0) (fun _ _ => 0)
    case atStart => exact ⟨rfl, rfl⟩
    case round =>
      obtain ⟨rfl, rfl⟩ := hrel
      by_cases h0 : 0 < d.l.length
      · go_wp2
        go_ret
        exact HR.out
      · go_wp2
        go_ret
        exact HR.out
  | false =>
    have hL : dList d = d.l.map (·.1) := by unfold dList; rw [hd]; rfl
    rw [hL]
    have h2 : w.cell? ⟨b, 2, none⟩ = some (.bool d.down) := h.head.cell 2
    have h1 : w.cell? ⟨b, 1, none⟩ = some (.slice A d.l.length c) := h.head.cell 1
    rw [hd] at h2
    have H1 := hide h1
    have H2 := hide h2
    clear hd h hL
    go_enter Try.func44, Try.ntmps44
    go_wp2
    clear h1 h2
    go_loopw [3, 4] (fun v i wr => ∃ k : Nat, i = .int .i64 k ∧ k ≤ d.l.length ∧ Env w wr [rowO 9 1 v (((d.l.take k).map (·.1)).map strV)]) (fun _ i _ => d.l.length - (intOf i).toNat)
    case atStart => exact ⟨0, rfl, Nat.zero_le _, E0⟩
    case round =>
      clear E0
      obtain ⟨k, rfl, hk, E⟩ := hrel
      have h1 : wr.cell? ⟨b, 1, none⟩ = some (.slice A d.l.length c) := (E.below.cell hbl).trans H1.out
      have h2 : wr.cell? ⟨b, 2, none⟩ = some (.bool false) := (E.below.cell hbl).trans H2.out
      by_cases hlt : k < d.l.length
      · obtain ⟨g, hA, f0, -, -⟩ := H.out.file hlt
        subst hA
        have hgl := lt_of_cell f0
        have g0 : wr.cell? ⟨g, k * 3, none⟩ = some (.string ⟨d.l[k].1.toArray⟩) := (E.below.cell hgl).trans f0
        have hs : (((d.l.take k).map (·.1)).map strV) ++ [strV d.l[k].1] = (((d.l.take (k + 1)).map (·.1)).map strV) := by
          rw [List.take_succ_eq_append_getElem hlt, List.map_append, List.map_append]; rfl
        generalize d.l[k].1 = x at *
        have HS := hide hs
        have hb : ((((d.l.take k).map (·.1)).map strV).length + [strV x].length) * 16 ≤ 140737488355328 := by simp; omega
        have HB := hide hb
        clear hs hb f0
        have E1 := (E.alloc 9 #[.string ⟨x.toArray⟩])
        have E1 := hide E1
        go_wp2_with (at_builtin
                     refine wpList_append_env rfl (.tmp 22) (.tmp 31) rfl Try.underlying36 str_info rfl (by decide) (by decide) (by rfl) (by rfl) E1.out.swap (E1.out.reads_lit 1 [strV x] rfl rfl) (strV_one [x]) HB.out ?_
                     intro v2 w2 E2)
        go_roundw
        case rel => exact ⟨k + 1, by go_num, by omega, HS.out ▸ E2.first⟩
        case measure => simp [intOf]; omega
      · obtain rfl : k = d.l.length := by omega
        have HR : Hid (∃ A c, u3 = .slice A d.l.length c ∧ Env w wr [rowO 9 1 (.slice A d.l.length c) ((d.l.map (·.1)).map strV)]) := by
          rw [List.take_length] at E
          have hr := E.row1
          rw [List.length_map, List.length_map] at hr
          obtain ⟨A', c', rfl, -⟩ := slice_form hr
          exact ⟨A', c', rfl, E⟩
        go_wp2
        go_ret
        obtain ⟨A', c', rfl, hE⟩ := HR.out
        exact ⟨A', c', by rw [List.length_map]; rfl, by rw [List.length_map]; exact hE⟩

theorem crashL_take (ks : List Int) : ∀ (l : List (Nm × DF)) (ks : List Int) (k : Nat) (h : k < l.length), dCrashL (l.take (k + 1)) ks = dCrashL (l.take k) ks ++ [(l[k].1, dCut l[k].2 ks[k]?)]
  | p :: r, ks, 0, _ => by simp [dCrashL, List.head?_eq_getElem?]
  | p :: r, ks, k + 1, h => by
    have ih := crashL_take ks r ks.tail k (by simpa using h)
    simp only [List.take_succ_cons, dCrashL, List.cons_append, List.getElem_cons_succ]
    rw [ih]
    simp
theorem crashL_len (l : List (Nm × DF)) (ks : List Int) : (dCrashL l ks).length = l.length := by
  have := congrArg List.length (crash_names ks l)
  simpa using this

theorem RfAt.setDown (h : RfAt w b A c d) (x : Bool) : RfAt (w.setCell ⟨b, 2, none⟩ (.bool x)) b A c { d with down := x } := by
  refine ⟨h.head.set_ 2 _, h.row.1, ?_⟩
  rcases h.row.2 with h0 | ⟨g, cap, cur, hv, hg, hh, rest⟩
  · exact .inl h0
  · exact .inr ⟨g, cap, cur, hv, hg, (Below.heap_setCell _ _ _ _ (fun e => h.apart g (by rw [hv]; rfl) e)).trans hh, rest⟩
theorem RfPost.setDown {n : Nat} {r : Value} {e : Ending} (h : RfPost w b A c n r d e w') (x : Bool) : RfPost w b A c n r { d with down := x } e (w'.setCell ⟨b, 2, none⟩ (.bool x)) := by
  obtain ⟨he, A', c', h1, h2, h3⟩ := h
  exact ⟨he, A', c', h1.setDown x, h2.setCell (.inl rfl) _, h3⟩

set_option maxRecDepth 100000 in
set_option maxHeartbeats 4000000 in
theorem rf_crash (ks : List Int) (Ak : Option Addr) (ck : Nat) (hks : Reads w w.heap.size 1 Ak ks.length (ks.map intV)) (hkl : ks.length ≤ maxLen) (hkb : ∀ (j : Nat) (h : j < ks.length), -9223372036854775808 ≤ ks[j] ∧ ks[j] ≤ 9223372036854775807) (hsp : ∀ ad, Ak = some ad → 0 < ks.length → ad = ⟨ad.block, ad.off, none⟩)
    (h : RfAt w b A c d) (ok : DOk d) (hl : d.l.length ≤ 1000000) (hu : dUsed d.l ≤ 140737488355328) :
    Calls Try.prog 30 #[.pointer (some ⟨b, 0, none⟩), .slice Ak ks.length ck] w (RfPost w b A c d.l.length (.tuple #[]) (dCrash d ks)) := by
  have H := hide h
  have hbl := h.head.lt
  have h2 : w.cell? ⟨b, 2, none⟩ = some (.bool d.down) := h.head.cell 2
  have h1 : w.cell? ⟨b, 1, none⟩ = some (.slice A d.l.length c) := h.head.cell 1
  cases hd : d.down with
  | true =>
    have hC : dCrash d ks = d := by unfold dCrash; rw [hd]; rfl
    rw [hC]
    rw [hd] at h2
    clear hd h hC
    go_enter Try.func30, Try.ntmps30
    go_wp2
    go_end0
    exact RfPost.same H.out rfl (Below.refl _ _)
  | false =>
    have hC : dCrash d ks = ⟨d.lim, dCrashL d.l ks, true⟩ := by unfold dCrash; rw [hd]; rfl
    rw [hC]
    rw [hd] at h2
    have H1 := hide h1
    have HOK := hide ok
    have HKS := hide hks
    have HKB := hide hkb
    have HSP := hide hsp
    have E0 := (Env.nil (Below.refl _ w)).nil_row 74 3
    unfold maxLen at hkl
    clear hd h hC ok hks hkb hsp
    go_enter Try.func30, Try.ntmps30
    go_wp2
    clear h1 h2
    go_loopw [4, 5] (fun v i wr => ∃ k : Nat, i = .int .i64 k ∧ k ≤ d.l.length ∧ Env w wr [rowO 74 3 v (filesC (dCrashL (d.l.take k) ks))]) (fun _ i _ => d.l.length - (intOf i).toNat)
    case atStart => exact ⟨0, rfl, Nat.zero_le _, E0⟩
    case round =>
      clear E0
      obtain ⟨k, rfl, hk, E⟩ := hrel
      have h1 : wr.cell? ⟨b, 1, none⟩ = some (.slice A d.l.length c) := (E.below.cell hbl).trans H1.out
      by_cases hlt : k < d.l.length
      · obtain ⟨g, hA, f0, f1, f2⟩ := H.out.file hlt
        subst hA
        have hgl : g < w.heap.size := lt_of_cell f0
        have g0 : wr.cell? ⟨g, k * 3, none⟩ = some (.string ⟨d.l[k].1.toArray⟩) := (E.below.cell hgl).trans f0
        have g1 : wr.cell? ⟨g, k * 3 + 1, none⟩ = some (.string ⟨d.l[k].2.b.toArray⟩) := (E.below.cell (p := ⟨g, _, none⟩) hgl).trans f1
        have g2 : wr.cell? ⟨g, k * 3 + 2, none⟩ = some (.int .i64 d.l[k].2.s) := (E.below.cell (p := ⟨g, _, none⟩) hgl).trans f2
        have hs : filesC (dCrashL (d.l.take k) ks) ++ filC (d.l[k].1, dCut d.l[k].2 ks[k]?) = filesC (dCrashL (d.l.take (k + 1)) ks) := by
          rw [crashL_take ks d.l ks k hlt, filesC_app]; rfl
        have hsy : d.l[k].2.s ≤ d.l[k].2.b.length := HOK.out.synced _ (List.getElem_mem hlt)
        have hFl : d.l[k].2.b.length ≤ 140737488355328 := by
          have := dUsed_mem (n := d.l[k].1) (f := d.l[k].2) (List.getElem_mem hlt)
          omega
        generalize d.l[k].1 = x at *
        generalize d.l[k].2 = F at *
        have HS := hide hs
        have hb : ((filesC (dCrashL (d.l.take k) ks)).length + (filC (x, dCut F ks[k]?)).length) * 40 ≤ 140737488355328 := by rw [filesC_len, crashL_len, List.length_take]; simp [filC]; omega
        have HB := hide hb
        have E1 := (E.alloc 74 #[.string ⟨x.toArray⟩, .string ⟨F.b.toArray⟩, .int .i64 F.s])
        have HSY := hide hsy
        clear hs hb f0 f1 f2 E
        generalize hz : wr.heap.size = sz at E1
        generalize hwr2 : wr.alloc (.cells #[.string ⟨x.toArray⟩, .string ⟨F.b.toArray⟩, .int .i64 F.s] 74) = wx at E1
        have HWX := hide hwr2
        have HZ := hide hz
        clear hwr2 hz
        obtain ⟨p, hp⟩ : ∃ p : Bool, (match ks[k]? with | some v => decide (0 < v) | none => false) = p := ⟨_, rfl⟩
        have HP := hide hp
        clear hp
        go_upto_region 7 with (fail)
        rw [HZ.out, HWX.out]
        go_cut [40] (fun s40 wr' => s40 = .bool p ∧ wr' = wx)
        case first =>
          by_cases hkk : k < ks.length
          · have hp := HP.out
            rw [List.getElem?_eq_getElem hkk] at hp
            simp only at hp
            obtain ⟨ad, hA, hab, hac⟩ := HKS.out.2 (by omega)
            have hsp := HSP.out ad hA (by omega)
            obtain ⟨kb, ko, sp⟩ := ad
            injection hsp with _ _ hsp
            subst hsp
            subst hA
            have hab : kb < w.heap.size := hab
            have hkc : wx.cell? ⟨kb, ko + k, none⟩ = some (.int .i64 ks[k]) := by
              have := hac k (.int .i64 ks[k]) (by simp [hkk, intV])
              rw [addr_add] at this
              exact (E1.below.cell hab).trans this
            generalize ks[k] = kv at *
            have hk3 : (k : Int) < (ks.length : Int) := by omega
            subst hp
            go_wp2_with fail
            go_meet
            case rel => exact ⟨rfl, rfl⟩
          · have hp := HP.out
            rw [List.getElem?_eq_none (by omega)] at hp
            simp only at hp
            subst hp
            go_wp2_with fail
            go_meet
            case rel => exact ⟨rfl, rfl⟩
        case rest =>
          obtain ⟨rfl, rfl⟩ := hcut
          go_upto_if 40 with (fail)
          obtain ⟨nv, hnv⟩ : ∃ nv, dKeep F ks[k]? = nv := ⟨_, rfl⟩
          have HNV := hide hnv
          clear hnv
          have c1 : wc.cell? ⟨sz, 1, none⟩ = some (.string ⟨F.b.toArray⟩) := E1.cell 1
          have c2 : wc.cell? ⟨sz, 2, none⟩ = some (.int .i64 F.s) := E1.cell 2
          go_cut [7] (fun s7 wr' => s7 = .int .i64 nv ∧ Env w wr' [cellsO sz 74 #[.string ⟨x.toArray⟩, .string ⟨F.b.toArray⟩, .int .i64 F.s], rowO 74 3 u4 (filesC (dCrashL (d.l.take k) ks))])
          case first =>
            cases p with
            | false =>
              have hn : nv = F.s := by
                rw [← HNV.out]
                have hp := HP.out
                unfold dKeep
                cases hk : ks[k]? with
                | none => rfl
                | some v =>
                  rw [hk] at hp
                  have : v.toNat = 0 := by
                    have : ¬ 0 < v := by simpa using hp
                    omega
                  simp [this]
              subst hn
              go_wp2_with fail
              go_meet
              case rel => exact ⟨rfl, E1⟩
            | true =>
              have hp := HP.out
              by_cases hkk : k < ks.length
              · rw [List.getElem?_eq_getElem hkk] at hp
                have hp : 0 < ks[k] := by simpa using hp
                have hnv := HNV.out
                rw [List.getElem?_eq_getElem hkk] at hnv
                have hkb := HKB.out k hkk
                obtain ⟨ad, hA, hab, hac⟩ := HKS.out.2 (by omega)
                have hsp := HSP.out ad hA (by omega)
                obtain ⟨kb, ko, sp⟩ := ad
                injection hsp with _ _ hsp
                subst hsp
                subst hA
                have hab : kb < w.heap.size := hab
                have hkc : wc.cell? ⟨kb, ko + k, none⟩ = some (.int .i64 ks[k]) := by
                  have := hac k (.int .i64 ks[k]) (by simp [hkk, intV])
                  rw [addr_add] at this
                  exact (E1.below.cell hab).trans this
                generalize ks[k] = kv at *
                have hk3 : (k : Int) < (ks.length : Int) := by omega
                have hnv : (nv : Int) = F.s + kv % ((F.b.length : Int) - F.s + 1) := by
                  rw [← hnv]
                  unfold dKeep
                  have : kv % ((F.b.length : Int) - F.s + 1) = ((kv.toNat % (F.b.length - F.s + 1) : Nat) : Int) := by
                    rw [Int.natCast_emod]
                    have := HSY.out
                    congr 1 <;> omega
                  rw [this]
                  simp
                have HNI := hide hnv
                have hsy := HSY.out
                clear hnv
                go_wp2_with fail
                go_quiet (fail)
                go_wp2_with fail
                go_meet
                case rel =>
                  have hle : nv ≤ F.b.length := by rw [← HNV.out]; exact dKeep_le HSY.out _
                  refine ⟨?_, E1.drewN nq⟩
                  congr 1
                  have := HNI.out
                  first
                    | omega
                    | (rw [← this]; exact IntWalk.i64_in _ (by omega))
                    | (rw [← this]; unfold wrap64; omega)
              · rw [List.getElem?_eq_none (by omega)] at hp
                cases hp
          case rest =>
            clear E1 c1 c2
            obtain ⟨rfl, E1⟩ := hcut
            have c0 : wc.cell? ⟨sz, 0, none⟩ = some (.string ⟨x.toArray⟩) := E1.cell 0
            have c1 : wc.cell? ⟨sz, 1, none⟩ = some (.string ⟨F.b.toArray⟩) := E1.cell 1
            have hle : nv ≤ F.b.length := by rw [← HNV.out]; exact dKeep_le HSY.out _
            have hex : (⟨F.b.toArray⟩ : ByteArray).extract 0 nv = ⟨(F.b.take nv).toArray⟩ := by
              apply ByteArray.ext
              simp
            have hszz : nv ≤ (⟨F.b.toArray⟩ : ByteArray).size := by simpa [ByteArray.size] using hle
            have hcc : [Value.string ⟨x.toArray⟩, .string ⟨(F.b.take nv).toArray⟩, .int .i64 nv] = filC (x, dCut F ks[k]?) := by
              have : dCut F ks[k]? = ⟨F.b.take nv, nv⟩ := by unfold dCut; rw [HNV.out]
              rw [this]
              rfl
            have HCC := hide hcc
            have hsl : sz < wc.heap.size := E1.blk.lt
            have EA := (E1.swap.alloc 74 #[.string ⟨x.toArray⟩, .string ⟨(F.b.take nv).toArray⟩, .int .i64 nv]).drew
            have EA := hide EA
            have hn0 : (0 : Int) ≤ (nv : Int) := by omega
            clear hcc
            go_wp2_with fail
            go_region_law (first
              | (refine step_append_env rfl (.tmp 55) (.tmp 64) rfl Try.underlying70 file_info rfl (by decide) (by decide) (by rfl) (by rfl) EA.out.swap (EA.out.reads_lit 1 (filC (x, dCut F ks[k]?)) (by rw [← HCC.out]) rfl) (filesC_one [(x, dCut F ks[k]?)]) HB.out ?_
                 intro v2 w2 E2))
            all_goals
              go_wp2_with fail
              go_roundw
              case rel => exact ⟨k + 1, by go_num, by omega, HS.out ▸ E2.first⟩
              case measure => simp [intOf]; omega
      · obtain rfl : k = d.l.length := by omega
        rw [List.take_length] at E
        obtain ⟨nn, hr⟩ := E.row
        obtain ⟨A', c', rfl, -⟩ := slice_form hr
        have hp : RfPut w b (dCrashL d.l ks) (.returned (.tuple #[])) (wr.setCell ⟨b, 1, none⟩ (.slice A' nn c')) := ⟨rfl, _, _, E, rfl⟩
        have hq := ((hp.post H.out (Below.refl _ _)).setDown true)
        have HQ := hide hq
        have p1 : wr.frozen? ⟨b, 1, none⟩ = false := (E.below.frozen (p := ⟨b, 1, none⟩) hbl).trans (H.out.head.frozen 1)
        have p2 : wr.frozen? ⟨b, 2, none⟩ = false := (E.below.frozen (p := ⟨b, 2, none⟩) hbl).trans (H.out.head.frozen 2)
        have h2 : wr.cell? ⟨b, 2, none⟩ = some (.bool d.down) := (E.below.cell (p := ⟨b, 2, none⟩) hbl).trans (H.out.head.cell 2)
        clear hp hq hr E
        go_wp2_with fail
        go_end0
        exact HQ.out

/-- Behind Copy. -/
def RfNew (w : World) (d : DS) (e : Ending) (w' : World) : Prop :=
  ∃ v w3, Env w w3 [rowO 74 3 v (filesC d.l)] ∧ e = .returned (.pointer (some ⟨w3.heap.size, 0, none⟩)) ∧ w' = w3.alloc (.cells #[.int .i64 d.lim, v, .bool d.down] 72)
set_option maxRecDepth 100000 in
set_option maxHeartbeats 1000000 in
theorem rf_copy (h : RfAt w b A c d) (hl : d.l.length ≤ 1000000) : Calls Try.prog 31 #[.pointer (some ⟨b, 0, none⟩)] w (RfNew w d) := by
  have h0 : w.cell? ⟨b, 0, none⟩ = some (.int .i64 d.lim) := h.head.cell 0
  have h1 : w.cell? ⟨b, 1, none⟩ = some (.slice A d.l.length c) := h.head.cell 1
  have h2 : w.cell? ⟨b, 2, none⟩ = some (.bool d.down) := h.head.cell 2
  have hbl := h.head.lt
  have HR := hide h.reads
  have E0 : Env w (w.alloc (.cells #[] 74)).drew [rowO 74 3 (.slice (some ⟨w.heap.size, 0, none⟩) 0 0) []] := ((Env.nil (Below.refl _ w)).lit0 _ 3).drew
  have hb : (([] : List Value).length + (filesC d.l).length) * 40 ≤ 140737488355328 := by rw [filesC_len]; simp; omega
  have HB := hide hb
  clear h hb
  go_enter Try.func31, Try.ntmps31
  go_wp2_with fail
  go_region_held3 (fun w' => w'.cell? ⟨b, 0, none⟩ = some (.int .i64 d.lim) ∧ w'.cell? ⟨b, 1, none⟩ = some (.slice A d.l.length c) ∧ w'.cell? ⟨b, 2, none⟩ = some (.bool d.down))
    (first | exact ⟨by assumption, by assumption, by assumption⟩ | go_keep)
    ((refine step_append_env rfl (.tmp 7) (.tmp 11) rfl Try.underlying70 file_info rfl (by decide) (by decide) (by rfl) (by rfl) E0 (E0.arg HR.out) (filesC_one _) HB.out ?_
      intro v2 w2 E2
      have q0 : w2.cell? ⟨b, 0, none⟩ = some (.int .i64 d.lim) := (E2.below.cell (p := ⟨b, 0, none⟩) hbl).trans h0
      have q1 : w2.cell? ⟨b, 1, none⟩ = some (.slice A d.l.length c) := (E2.below.cell (p := ⟨b, 1, none⟩) hbl).trans h1
      have q2 : w2.cell? ⟨b, 2, none⟩ = some (.bool d.down) := (E2.below.cell (p := ⟨b, 2, none⟩) hbl).trans h2
      obtain ⟨n2, hr2⟩ := E2.row
      obtain ⟨A2, c2, rfl, -⟩ := slice_form hr2
      clear hr2))
  all_goals
    go_wp2_with fail
    go_ret
    exact ⟨_, w2, E2, rfl, rfl⟩
end
end Go.Proofs.Ytbkenickmiapdaa
