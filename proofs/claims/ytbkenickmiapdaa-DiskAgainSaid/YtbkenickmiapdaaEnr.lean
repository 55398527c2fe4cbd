/- DERIVED. append onto a row of the environment, in a plain region and in one that draws its order. -/
import Derived.Test.YtbkenickmiapdaaEnv
import Derived.Deep.RegionLaw
namespace Go.Proofs.Ytbkenickmiapdaa
set_option linter.unusedVariables false
set_option linter.unusedSimpArgs false
open Go.RowKit

section
variable {P : Program} {W w w' : World} {R : List Ob} {e t : TypeId} {z : Value} {size bytes : Nat} {v : Value} {xs news : List Value} {A : Option Addr} {m c : Nat}
theorem Env.append_run (ty : TypeId) (ht : P.underlying t = some (.slice e)) (hinfo : (P.info? e).map (fun i => (i.zero, i.size, i.bytes)) = some (some z, size, bytes)) (hzs : z.cells.size = size) (hsz : 0 < size) (hby : 0 < bytes)
    (E : Env W w (rowO e size v xs :: R)) (hr : Reads w w.heap.size size A m news) (h1 : ∀ u ∈ news, u.oneCell' = true) (hb : (xs.length + news.length) * bytes ≤ 140737488355328) :
    ∃ v' w', (Builtin.append_ #[t, t] ty #[v, .slice A m c]).run P w = .ok v' w' ∧ Env W w' (rowO e size v' (xs ++ news) :: R) := by
  obtain ⟨i0, hi, hz0, hz1, hz2⟩ := info_parts hinfo
  obtain ⟨n, hrow⟩ := E.row
  have hn : n ≤ xs.length := by have := hrow.1; rw [this]; exact Nat.le_mul_of_pos_right _ hsz
  have hm : m ≤ news.length := by have := hr.1; rw [this]; exact Nat.le_mul_of_pos_right _ hsz
  have hnm : (n + m) * bytes ≤ 140737488355328 := Nat.le_trans (Nat.mul_le_mul_right _ (by omega)) hb
  have hnm2 : n + m ≤ maxLen := by have := Nat.le_mul_of_pos_right (n + m) hby; simp only [maxLen]; omega
  obtain ⟨v', w', h2, h3, h4, h5⟩ := run_append_any (P := P) w W.heap.size t ty e i0 z size bytes ht hi hz0 hz1 hz2 hzs hsz v n xs hrow w.heap.size A m c news hr h1 hnm2 hnm E.size
  refine ⟨v', w', h2, E.grown h3 h4 ?_⟩
  rcases h5 with h | h
  · exact .inl h
  · exact .inr fun k hk => by rw [h] at hk; injection hk with hk; omega

theorem step_append_env {ops : Array Oper} {o : Oper} {a : Act} {K : Act → World → Prop} {Q : Exit → Act → World → Prop} {G : Prop} (hgd : o.guard = none) (s x : Operand)
    (ho : o.op = .call { callee := .builtin .append, args := #[s, x], argTypes := #[t, t] }) (ht : P.underlying t = some (.slice e)) (hinfo : (P.info? e).map (fun i => (i.zero, i.size, i.bytes)) = some (some z, size, bytes)) (hzs : z.cells.size = size) (hsz : 0 < size) (hby : 0 < bytes)
    (hs : a.eval s = v) (hx : a.eval x = .slice A m c) (E : Env W w (rowO e size v xs :: R)) (hr : Reads w w.heap.size size A m news) (h1 : ∀ u ∈ news, u.oneCell' = true) (hb : (xs.length + news.length) * bytes ≤ 140737488355328)
    (h : ∀ v' w', Env W w' (rowO e size v' (xs ++ news) :: R) → K (a.put o.dst v') w') : if Region.wanted o (yielded ops a.tmps) = true then Oper.wp P o a w K Q else G := by
  have hw : Region.wanted o (yielded ops a.tmps) = true := by simp [Region.wanted, hgd]
  rw [if_pos hw]
  obtain ⟨v', w', hrun, hE⟩ := Env.append_run (c := c) o.type ht hinfo hzs hsz hby E hr h1 hb
  unfold Oper.wp execOp
  simp only [ho, resolve, invoke, builtin, Sem.run_bind, Sem.run_pure, Result.andThen_ok, List.map_toArray, List.map_cons, List.map_nil, hs, hx, hrun]
  exact h v' w' hE
theorem wpList_append_env {ops : Array Oper} {rest : List Oper} {o : Oper} {a : Act} {Q : Exit → Act → World → Prop} (hgd : o.guard = none) (s x : Operand)
    (ho : o.op = .call { callee := .builtin .append, args := #[s, x], argTypes := #[t, t] }) (ht : P.underlying t = some (.slice e)) (hinfo : (P.info? e).map (fun i => (i.zero, i.size, i.bytes)) = some (some z, size, bytes)) (hzs : z.cells.size = size) (hsz : 0 < size) (hby : 0 < bytes)
    (hs : a.eval s = v) (hx : a.eval x = .slice A m c) (E : Env W w (rowO e size v xs :: R)) (hr : Reads w w.heap.size size A m news) (h1 : ∀ u ∈ news, u.oneCell' = true) (hb : (xs.length + news.length) * bytes ≤ 140737488355328)
    (h : ∀ v' w', Env W w' (rowO e size v' (xs ++ news) :: R) → wpList P ops Q rest (a.put o.dst v') w') : wpList P ops Q (o :: rest) a w :=
  wpList_plain hgd fun _ hK => by
    obtain ⟨v', w', hrun, hE⟩ := Env.append_run (c := c) o.type ht hinfo hzs hsz hby E hr h1 hb
    unfold Oper.wp execOp
    simp only [ho, resolve, invoke, builtin, Sem.run_bind, Sem.run_pure, Result.andThen_ok, List.map_toArray, List.map_cons, List.map_nil, hs, hx, hrun]
    exact hK _ _ (h v' w' hE)
/-- The first object alone. -/
theorem Env.first {Q : Ob} (E : Env W w (Q :: R)) : Env W w [Q] := by
  obtain ⟨S, ⟨A, B, hA, hB, _, hS⟩, h2, h3⟩ := E
  exact ⟨A, Has.one hA, fun k hk => h2 k ((hS k).2 (.inl hk)), h3⟩
/-- The empty literal. -/
theorem Env.lit0 (E : Env W w R) (e : TypeId) (size : Nat) : Env W (w.alloc (.cells #[] e)) (rowO e size (.slice (some ⟨w.heap.size, 0, none⟩) 0 0) [] :: R) :=
  E.new_row ((Below.refl _ w).alloc (Nat.le_refl _) _) (World.ownsRow_made w #[] 0 (Nat.le_refl _) (Nat.zero_le _) (by simp)) (Nat.le_refl _)
/-- A literal, as a source. -/
theorem Env.reads_lit {g : Nat} {cs : Array Value} (E : Env W w (cellsO g t cs :: R)) (k : Nat) (xs : List Value) (h : cs.toList = xs) (hk : xs.length = k * size) : Reads w w.heap.size size (some ⟨g, 0, none⟩) k xs := by
  refine ⟨hk, fun _ => ⟨_, rfl, E.blk.lt, fun j u hu => ?_⟩⟩
  have : (⟨g, 0, none⟩ : Addr).add j = ⟨g, j, none⟩ := by
    unfold Addr.add
    split
    · rename_i h; simp [h]
    · simp
  rw [this, E.cell, ← hu, ← h]
  simp
end
end Go.Proofs.Ytbkenickmiapdaa
