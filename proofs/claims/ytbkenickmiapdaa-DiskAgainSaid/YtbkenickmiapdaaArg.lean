/- DERIVED. Arguments opened: kinds of data, and how they lie in memory. -/
import Derived.Test.YtbkenickmiapdaaRow
import Derived.Test.YtbkenickmiapdaaApp
namespace Go.Proofs.Ytbkenickmiapdaa
set_option linter.unusedVariables false
set_option linter.unusedSimpArgs false
set_option maxRecDepth 100000
open Go.RowKit Go.ChangeShapes Go.WideShapes Go.ChangeAt Go.Deep

theorem add_flat (g o n : Nat) : (⟨g, o, none⟩ : Addr).add n = ⟨g, o + n, none⟩ := by
  unfold Addr.add
  split
  · rename_i h; simp [h]
  · rfl

theorem list_choose {α : Type} {p : Nat → α → Prop} : ∀ (n : Nat), (∀ i, i < n → ∃ a, p i a) → ∃ l : List α, l.length = n ∧ ∀ (i : Nat) (h : i < l.length), p i l[i]
  | 0, _ => ⟨[], rfl, fun i h => by cases h⟩
  | n + 1, hex => by
    obtain ⟨l, h1, h2⟩ := list_choose n fun i hi => hex i (by omega)
    obtain ⟨a, ha⟩ := hex n (by omega)
    refine ⟨l ++ [a], by simp [h1], fun i h => ?_⟩
    by_cases hi : i < l.length
    · rw [List.getElem_append_left hi]; exact h2 i hi
    · have : i = l.length := by simp at h; omega
      subst this
      rw [List.getElem_append_right (Nat.le_refl _)]
      simp only [Nat.sub_self, List.getElem_cons_zero]
      rw [h1]
      exact ha

/-- A kind of data: the cells of one, in a world. -/
structure Kd (α : Type) where
  is : World → α → List Value → Prop
  keep : ∀ {w w' : World} {a : α} {cs : List Value}, is w a cs → Below w.heap.size w w' → is w' a cs

def kInt (k : IntKind) : Kd Int := ⟨fun _ z cs => cs = [.int k z] ∧ (Lit.int k z).wf = true, fun h _ => h⟩
def kU8 : Kd UInt8 := ⟨fun _ z cs => cs = [u8V z], fun h _ => h⟩
def kBool : Kd Bool := ⟨fun _ z cs => cs = [.bool z], fun h _ => h⟩
def kStr : Kd (List UInt8) := ⟨fun _ z cs => cs = [.string ⟨z.toArray⟩] ∧ z.length ≤ maxLen, fun h _ => h⟩
/-- A slice as a value. -/
structure Sl (α : Type) where
  A : Option Addr
  l : List α
  c : Nat
def Sl.val {α : Type} (s : Sl α) : Value := .slice s.A s.l.length s.c
def kSl {α : Type} (K : Kd α) (c : Nat) : Kd (Sl α) where
  is w s cs := cs = [s.val] ∧ s.l.length ≤ s.c ∧ s.c ≤ maxLen ∧ (s.A = none → s.c = 0) ∧ (∀ ad, s.A = some ad → 0 < s.l.length → ad = ⟨ad.block, ad.off, none⟩) ∧
    ∀ (i : Nat) (h : i < s.l.length), ∃ g o, s.A = some ⟨g, o, none⟩ ∧ g < w.heap.size ∧ ∃ ds, ds.length = c ∧ K.is w s.l[i] ds ∧ ∀ (j : Nat) (u : Value), ds[j]? = some u → w.cell? ⟨g, o + (i * c + j), none⟩ = some u
  keep h hb := ⟨h.1, h.2.1, h.2.2.1, h.2.2.2.1, h.2.2.2.2.1, fun i hi => by
    obtain ⟨g, o, h1, h2, ds, h3, h4, h5⟩ := h.2.2.2.2.2 i hi
    exact ⟨g, o, h1, Nat.lt_of_lt_of_le h2 hb.size, ds, h3, K.keep h4 hb, fun j u hu => (hb.cell (p := ⟨g, _, none⟩) h2).trans (h5 j u hu)⟩⟩

/-- What lies in a type's cells is of a kind. -/
def Opens {α : Type} (t : TypeId) (K : Kd α) : Prop := ∀ {H : Type} {enc : TypeId × Value → H} {W : World} {fuel : Nat} {cs : List Value} {x : DataW H × List MemPlace}, DataW.trod enc Try.prog W 0 (fun _ => true) true fuel t cs = some x → ∃ a, K.is W a cs

section
variable {α : Type} {K : Kd α} {t e : TypeId} {W : World}
theorem opens_int {k : IntKind} (ht : Try.prog.underlying t = some (.int k)) : Opens t (kInt k) := fun h => by
  obtain ⟨n, h1, _, h3⟩ := DataW.trod_int ht h
  exact ⟨n, h1, h3⟩
theorem opens_u8 (ht : Try.prog.underlying t = some (.int .u8)) : Opens t kU8 := fun h => by
  obtain ⟨n, h1, _, h3⟩ := DataW.trod_int ht h
  refine ⟨UInt8.ofNat n.toNat, ?_⟩
  simp [Lit.wf, IntKind.min, IntKind.max, IntKind.signed, IntKind.bits] at h3
  simp only [kU8, u8V, h1, UInt8.toNat_ofNat']
  congr 2
  omega
theorem opens_bool (ht : Try.prog.underlying t = some .bool) : Opens t kBool := fun h => by
  obtain ⟨n, h1, _⟩ := DataW.trod_bool ht h
  exact ⟨n, h1⟩
theorem opens_str (ht : Try.prog.underlying t = some .string) : Opens t kStr := fun h => by
  obtain ⟨s, h1, _, h3⟩ := DataW.trod_string ht h
  exact ⟨s.data.toList, h1, by simpa using h3⟩
theorem opens_sl {c : Nat} (ht : Try.prog.underlying t = some (.slice e)) (hc : Try.prog.cellsOf e = c) (hc0 : 0 < c) (hO : Opens e K) : Opens t (kSl K c) := fun {H enc W fuel cs x} h => by
  rcases open_slice ht h with ⟨rfl, _⟩ | ⟨a, len, cap, m, n, D, Pl, rfl, _, hl, hm, hmm, _, hi⟩
  · exact ⟨⟨none, [], 0⟩, rfl, Nat.le_refl _, Nat.zero_le _, fun _ => rfl, fun ad (e : none = some ad) => (by cases e), fun i (h : i < 0) => (by cases h)⟩
  · rw [hc] at hi
    simp only [if_true] at hmm
    have hex : ∀ i : Nat, i < len → ∃ a' : α, ∃ ds, W.cells? 0 (a.add (i * c)) c = some ds ∧ K.is W a' ds := fun i hil => by
      obtain ⟨ds, h1, h2⟩ := hi i (by omega)
      obtain ⟨a', h3⟩ := hO h2
      exact ⟨a', ds, h1, h3⟩
    obtain ⟨l, hlen, hl2⟩ := list_choose (p := fun i a' => ∃ ds, W.cells? 0 (a.add (i * c)) c = some ds ∧ K.is W a' ds) len hex
    have hsp : 0 < l.length → a = ⟨a.block, a.off, none⟩ := fun h0 => by
      obtain ⟨ds, h1, h2⟩ := hl2 0 h0
      obtain ⟨_, h3, h4⟩ := World.cells?_some h1
      have := h4 0 hc0
      rw [List.getElem?_eq_getElem (by omega)] at this
      simp [Addr.add] at this
      have := World.cell?_spot this
      obtain ⟨g, o, s⟩ := a
      simpa using this
    refine ⟨⟨some a, l, cap⟩, by simp [Sl.val, hlen], by simp only; omega, hm, (fun e => by cases e), (fun ad e h0 => by injection e with e; subst e; exact hsp h0), fun i h => ?_⟩
    obtain ⟨ds, h1, h2⟩ := hl2 i h
    obtain ⟨_, h3, h4⟩ := World.cells?_some h1
    have ha := hsp (Nat.lt_of_le_of_lt (Nat.zero_le _) h)
    obtain ⟨g, o, s⟩ := a
    injection ha with _ _ hs
    subst hs
    have hcell : ∀ (j : Nat) (u : Value), ds[j]? = some u → W.cell? ⟨g, o + (i * c + j), none⟩ = some u := fun j u hu => by
      have hj : j < c := by have := (List.getElem?_eq_some_iff.1 hu).1; omega
      have := h4 j hj
      rw [← hu, ← this, add_add, add_flat]
    refine ⟨g, o, rfl, ?_, ds, h3, h2, hcell⟩
    have h0 := hcell 0 (ds[0]'(by omega)) (List.getElem?_eq_getElem (by omega))
    rcases Nat.lt_or_ge g W.heap.size with h' | h'
    · exact h'
    · unfold World.cell? at h0; rw [Array.getElem?_eq_none h'] at h0; cases h0

/-- A struct's fields. -/
theorem opens_fields {fs : Array Field} {H : Type} {enc : TypeId × Value → H} {W : World} {fuel : Nat} {cs : List Value} {x : DataW H × List MemPlace} (ht : Try.prog.underlying t = some (.struct fs)) (h : DataW.trod enc Try.prog W 0 (fun _ => true) true fuel t cs = some x) :
    cs.length = Try.prog.cellsOf t ∧ ∀ (i : Nat) (f : Field) {β : Type} (K : Kd β), fs[i]? = some f → Opens f.type K → ∃ a, K.is W a ((cs.drop f.offset).take (Try.prog.cellsOf f.type)) := by
  obtain ⟨xs, n, _, _, h1, h2, h3⟩ := DataW.trod_struct ht h
  refine ⟨h1, fun i f β K hf hO => ?_⟩
  have := h3 i f hf
  have hi : i < xs.length := by rw [h2]; exact (Array.getElem?_eq_some_iff.1 hf).1
  rw [List.getElem?_eq_getElem hi] at this
  exact hO this
theorem at_take {cs : List Value} {o : Nat} {v : Value} (h : (cs.drop o).take 1 = [v]) : cs[o]? = some v := by
  have : ((cs.drop o).take 1)[0]? = some v := by rw [h]; rfl
  simpa using this
theorem at_takes {cs ds : List Value} {o c j : Nat} {v : Value} (h : (cs.drop o).take c = ds) (hv : ds[j]? = some v) : cs[o + j]? = some v := by
  subst h
  rw [List.getElem?_take] at hv
  split at hv
  · simpa using hv
  · cases hv

/-- A slice that came in. -/
theorem sl_of {c base : Nat} {H : Type} {enc : TypeId × Value → H} {v : Value} {d : DataW H} {p : List MemPlace} (ht : Try.prog.underlying t = some (.slice e)) (hO : Opens t (kSl K c)) (hval : Value.okWide Try.prog W .any base t v) (h : DataW.Trod enc Try.prog W 0 (fun _ => true) true t v d p) :
    ∃ s : Sl α, v = s.val ∧ (kSl K c).is W s [s.val] := by
  obtain ⟨a1, len, cap, rfl⟩ := okWide_slice ht hval
  obtain ⟨fuel, hf⟩ := h
  obtain ⟨s, hs⟩ := hO hf
  have e := hs.1
  simp [Value.cells] at e
  refine ⟨s, e, ?_⟩
  have := hs
  simp only [Value.cells] at this
  rw [← e]
  exact this
/-- A struct that came in. -/
theorem agg_of {fs : Array Field} {base : Nat} {H : Type} {enc : TypeId × Value → H} {v : Value} {d : DataW H} {p : List MemPlace} (ht : Try.prog.underlying t = some (.struct fs)) (hO : Opens t K) (hval : Value.okWide Try.prog W .any base t v) (h : DataW.Trod enc Try.prog W 0 (fun _ => true) true t v d p) :
    ∃ (a : α) (cs : Array Value), v = .agg cs ∧ K.is W a cs.toList := by
  obtain ⟨cs, rfl, _⟩ := okWide_struct ht hval
  obtain ⟨fuel, hf⟩ := h
  obtain ⟨a, ha⟩ := hO hf
  exact ⟨a, cs, rfl, by simpa [Value.cells] using ha⟩

/-- A slice of one-cell data, read. -/
theorem sl_reads {s : Sl α} {cs : List Value} {en : α → Value} (h : (kSl K 1).is W s cs) (hK : ∀ a ds, K.is W a ds → ds = [en a]) : Reads W W.heap.size 1 s.A s.l.length (s.l.map en) := by
  refine ⟨by simp, fun h0 => ?_⟩
  obtain ⟨g, o, hA, hg, _⟩ := h.2.2.2.2.2 0 h0
  refine ⟨_, hA, hg, fun j u hu => ?_⟩
  have hj : j < s.l.length := by have := (List.getElem?_eq_some_iff.1 hu).1; simpa using this
  obtain ⟨g', o', hA', _, ds, _, h4, h5⟩ := h.2.2.2.2.2 j hj
  rw [hA] at hA'
  injection hA' with hA'
  injection hA' with e1 e2
  subst e1; subst e2
  rw [add_flat]
  have := h5 0 (en s.l[j]) (by rw [hK _ _ h4]; rfl)
  have he : (s.l.map en)[j]? = some (en s.l[j]) := by simp [hj]
  rw [he] at hu
  rw [← hu]
  simpa using this
end
end Go.Proofs.Ytbkenickmiapdaa
