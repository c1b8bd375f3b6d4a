/- What a reading of an argument tells: the plain values that it holds. -/
import Derived.SizedLaws
import Derived.ChangeArms
import Derived.ChangeSlices
import Derived.Test.YtooiiihaijpbaaaRxData
set_option linter.unusedVariables false
set_option linter.unusedSimpArgs false
namespace Go.Rx.Lift
open Go.RowKit Go.WideShapes Go.ChangeShapes Go.Rx
/-- What was there. -/
def Was (w : World) (g _o : Nat) : Prop := g < w.heap.size
/-- A value of type t that reads as data is, cell by cell, what e says of some a, and ok holds of it. -/
def Opens (P : Program) (t : TypeId) {α : Type} (e : α → List PV) (ok : α → Prop) : Prop :=
  ∀ (H : Type) (enc : TypeId × Value → H) (w : World) (base : Nat) (spare : Nat → Bool) (held : Bool) (fuel : Nat) (cs : List Value) (x : DataW H × List MemPlace),
    DataW.trod enc P w base spare held fuel t cs = some x → (∀ n ∈ x.1.weights P t, n ≤ reachBytes) → ∃ a, Fa (fun p v => RepP (Was w) w p v) (e a) cs ∧ ok a

variable {P : Program}

theorem opens_int {t : TypeId} {k : IntKind} (ht : P.underlying t = some (.int k)) : Opens P t (fun n : Int => [.sc (.int k n)]) (fun n => (Lit.int k n).wf = true) := by
  intro H enc w base spare held fuel cs x h _
  obtain ⟨n, rfl, _, hw⟩ := DataW.trod_int ht h
  exact ⟨n, ⟨.sc _ rfl, trivial⟩, hw⟩
theorem opens_bool {t : TypeId} (ht : P.underlying t = some .bool) : Opens P t (fun b : Bool => [.sc (.bool b)]) (fun _ => True) := by
  intro H enc w base spare held fuel cs x h _
  obtain ⟨b, rfl, _⟩ := DataW.trod_bool ht h
  exact ⟨b, ⟨.sc _ rfl, trivial⟩, trivial⟩
theorem opens_string {t : TypeId} (ht : P.underlying t = some .string) : Opens P t (fun s : ByteArray => [.sc (.string s)]) (fun s => s.size ≤ 140737488351232) := by
  intro H enc w base spare held fuel cs x h hw
  obtain ⟨s, rfl, rfl, _⟩ := DataW.trod_string ht h
  refine ⟨s, ⟨.sc _ rfl, trivial⟩, ?_⟩
  have := hw s.data.toList.length (by simp [DataW.weights])
  rw [Array.length_toList] at this
  exact this
theorem cells_get {w : World} {base : Nat} {a : Addr} {n : Nat} {cs : List Value} (h : w.cells? base a n = some cs) : cs.length = n ∧ ∀ i u, cs[i]? = some u → w.cell? (a.add i) = some u := by
  obtain ⟨_, hl, hc⟩ := World.cells?_some h
  refine ⟨hl, fun i u hu => ?_⟩
  have hi : i < n := by rw [← hl]; exact (List.getElem?_eq_some_iff.1 hu).1
  rw [hc i hi, hu]
theorem weightsAll_mem {H : Type} {e : TypeId} : ∀ {l : List (DataW H)} {d : DataW H}, d ∈ l → ∀ n ∈ d.weights P e, n ∈ DataW.weightsAll P e l
  | d0 :: l, d, hd, n, hn => by
    simp only [DataW.weightsAll, List.mem_append]
    rcases List.mem_cons.1 hd with rfl | hd
    · exact .inl hn
    · exact .inr (weightsAll_mem hd n hn)
theorem list_of {α : Type} {Q : Nat → α → Prop} : ∀ {len : Nat}, (∀ i, i < len → ∃ p, Q i p) → ∃ l : List α, l.length = len ∧ ∀ i p, l[i]? = some p → Q i p
  | 0, _ => ⟨[], rfl, by simp⟩
  | m + 1, each => by
    obtain ⟨l, h1, h2⟩ := list_of (len := m) (fun i hi => each i (by omega))
    obtain ⟨p, hp⟩ := each m (by omega)
    refine ⟨l ++ [p], by simp [h1], fun i q hq => ?_⟩
    rcases Nat.lt_trichotomy i m with hi | hi | hi
    · rw [List.getElem?_append_left (by omega)] at hq
      exact h2 i q hq
    · subst hi
      rw [List.getElem?_append_right (by omega), h1] at hq
      simp at hq
      subst hq
      exact hp
    · rw [List.getElem?_eq_none (by simp; omega)] at hq
      cases hq
theorem cell_spot {w : World} {a : Addr} {u : Value} (h : w.cell? a = some u) : a.spot = none ∧ a.block < w.heap.size := by
  unfold World.cell? at h
  cases hb : w.heap[a.block]? with
  | none => rw [hb] at h; cases h
  | some o =>
    rw [hb] at h
    have hlt : a.block < w.heap.size := by
      rcases Nat.lt_or_ge a.block w.heap.size with h' | h'
      · exact h'
      · rw [Array.getElem?_eq_none h'] at hb; cases hb
    cases o with
    | cells c e fz =>
      refine ⟨?_, hlt⟩
      simp only at h
      split at h
      · cases h
      · rename_i hs; simpa using hs
    | _ => cases h
theorem opens_slice {t el : TypeId} {α : Type} {e : α → List PV} {ok : α → Prop} {sz B : Nat} (ht : P.underlying t = some (.slice el)) (hc : P.cellsOf el = sz) (hpos : 0 < sz) (hB : P.bytesOf el = B) (he : Opens P el e ok) :
    Opens P t (fun l : List α => [.sl sz (l.map e)]) (fun l => l.length * B ≤ 140737488351232 ∧ ∀ a ∈ l, ok a) := by
  intro H enc w base spare held fuel cs x h hw
  rcases DataW.trod_slice ht h with ⟨rfl, rfl⟩ | ⟨a, len, cap, elems, rest, n, _, rfl, rfl, _, hl, hm, hlen, hel, _, _⟩
  · exact ⟨[], ⟨.nil sz, trivial⟩, by simp, by simp⟩
  · have each : ∀ i, i < len → ∃ p : α, ok p ∧ ∃ c, c.length = sz ∧ Fa (fun p v => RepP (Was w) w p v) (e p) c ∧ ∀ j u, c[j]? = some u → w.cell? (a.add (i * sz + j)) = some u := by
      intro i hi
      have h1 := hel i hi
      rw [hc] at h1
      have hil : i < elems.length := by omega
      rw [List.getElem?_eq_getElem hil, Option.bind_eq_some_iff] at h1
      obtain ⟨c, hcs, hr⟩ := h1
      obtain ⟨hlc, hcell⟩ := cells_get hcs
      obtain ⟨p, hK, hok⟩ := he H enc w base spare held n c _ hr (fun m hm => hw m (by
        simp only [DataW.weights, ht, List.mem_cons, List.mem_append]
        refine .inr (.inl ?_)
        exact weightsAll_mem (List.mem_map_of_mem (List.getElem_mem hil)) m hm))
      refine ⟨p, hok, c, hlc, hK, fun j u hu => ?_⟩
      have := hcell j u hu
      rw [Addr.add_add] at this
      exact this
    obtain ⟨l, h1, h2⟩ := list_of each
    have hbytes : (elems.length + rest.length) * B ≤ 140737488351232 := by
      have := hw ((elems.length + rest.length) * B) (by simp [DataW.weights, ht, hB])
      exact this
    refine ⟨l, ⟨?_, trivial⟩, ?_, fun p hp => ?_⟩
    · by_cases h0 : len = 0
      · subst h0
        have : l = [] := List.eq_nil_of_length_eq_zero h1
        subst this
        exact RepP.emp sz a cap
      · -- there is a row: the address has no spot
        have sp : a.spot = none ∧ a.block < w.heap.size := by
          obtain ⟨p, hp⟩ : ∃ p, l[0]? = some p := ⟨l[0]'(by omega), List.getElem?_eq_getElem (by omega)⟩
          obtain ⟨_, c, hcl, _, hcc⟩ := h2 0 p hp
          obtain ⟨u, hu⟩ : ∃ u, c[0]? = some u := ⟨c[0]'(by omega), List.getElem?_eq_getElem (by omega)⟩
          have := hcc 0 u hu
          rw [Nat.zero_mul, Nat.add_zero] at this
          have e0 : a.add 0 = a := by unfold Addr.add; rw [if_pos rfl]
          rw [e0] at this
          exact cell_spot this
        obtain ⟨g, o, s⟩ := a
        obtain ⟨hs1, hs2⟩ := sp
        simp only at hs1 hs2
        subst hs1
        have hcl : ∀ (i : Nat) (p : α) (k : Nat) (q : PV), l[i]? = some p → (e p)[k]? = some q → ∃ u, w.cell? ⟨g, o + (i * sz + k), none⟩ = some u ∧ RepP (Was w) w q u := fun i p k q hi hk => by
          obtain ⟨_, c, hcl, hK, hcc⟩ := h2 i p hi
          obtain ⟨u, hu, hr⟩ := hK.get hk
          have := hcc k u hu
          rw [Addr.add_lit] at this
          exact ⟨u, this, hr⟩
        rw [show len = (l.map e).length by rw [List.length_map, h1]]
        refine RepP.sl sz g o cap (l.map e) (fun i k => (w.cell? ⟨g, o + (i * sz + k), none⟩).getD undef) (by rw [List.length_map]; omega) (fun r hr => ?_) (fun j r c p hj hp => ?_) (fun j r c p hj hp => ?_)
        · obtain ⟨p, hp, rfl⟩ := List.mem_map.1 hr
          obtain ⟨i, hi⟩ := List.getElem?_of_mem hp
          obtain ⟨_, c, hcl', hK, _⟩ := h2 i p hi
          rw [hK.length, hcl']
        · rw [List.getElem?_map, Option.map_eq_some_iff] at hj
          obtain ⟨q, hq, rfl⟩ := hj
          obtain ⟨u, hu, _⟩ := hcl j q c p hq hp
          rw [hu]
          exact ⟨hs2, rfl⟩
        · rw [List.getElem?_map, Option.map_eq_some_iff] at hj
          obtain ⟨q, hq, rfl⟩ := hj
          obtain ⟨u, hu, hr⟩ := hcl j q c p hq hp
          rw [hu]
          exact hr
    · rw [h1]
      exact Nat.le_trans (Nat.mul_le_mul_right _ (by omega)) hbytes
    · obtain ⟨i, hi⟩ := List.getElem?_of_mem hp
      exact (h2 i p hi).1
/-- The same of values of another make. -/
theorem opens_iso {t : TypeId} {α β : Type} {e : α → List PV} {ok : α → Prop} {e' : β → List PV} {ok' : β → Prop} (f : α → β) (he : ∀ a, e' (f a) = e a) (hok : ∀ a, ok a → ok' (f a)) (h : Opens P t e ok) : Opens P t e' ok' := by
  intro H enc w base spare held fuel cs x hx hw
  obtain ⟨a, hK, hk⟩ := h H enc w base spare held fuel cs x hx hw
  exact ⟨f a, by rw [he]; exact hK, hok a hk⟩

/-- A struct's fields from field i on, whose cells begin at off. -/
def From (P : Program) (fs : Array Field) (i off total : Nat) {α : Type} (e : α → List PV) (ok : α → Prop) : Prop :=
  ∀ (H : Type) (enc : TypeId × Value → H) (w : World) (base : Nat) (spare : Nat → Bool) (held : Bool) (n : Nat) (cs : List Value) (xs : List (DataW H × List MemPlace)),
    cs.length = total → xs.length = fs.size →
    (∀ (j : Nat) (f : Field), fs[j]? = some f → DataW.trod enc P w base spare held n f.type ((cs.drop f.offset).take (P.cellsOf f.type)) = xs[j]?) →
    (∀ (j : Nat) (f : Field) (d : DataW H × List MemPlace), fs[j]? = some f → xs[j]? = some d → ∀ m ∈ d.1.weights P f.type, m ≤ reachBytes) →
    ∃ a, Fa (fun p v => RepP (Was w) w p v) (e a) (cs.drop off) ∧ ok a
theorem from_last {fs : Array Field} {i off total : Nat} {f : Field} {α : Type} {e : α → List PV} {ok : α → Prop} (sz : Nat) (hf : fs[i]? = some f) (ho : f.offset = off) (hs : P.cellsOf f.type = sz) (htot : off + sz = total) (h : Opens P f.type e ok) : From P fs i off total e ok := by
  intro H enc w base spare held n cs xs hcs hxs hr hw
  have hi : i < fs.size := by
    rcases Nat.lt_or_ge i fs.size with h | h
    · exact h
    · rw [Array.getElem?_eq_none h] at hf; cases hf
  have h1 := hr i f hf
  have hx : i < xs.length := by omega
  rw [List.getElem?_eq_getElem hx, ho, hs, List.take_of_length_le (by rw [List.length_drop]; omega)] at h1
  exact h H enc w base spare held n _ _ h1 (hw i f _ hf (List.getElem?_eq_getElem hx))
theorem from_cons {fs : Array Field} {i off total : Nat} {f : Field} {α β : Type} {e : α → List PV} {ok : α → Prop} {e2 : β → List PV} {ok2 : β → Prop} (sz : Nat) (hf : fs[i]? = some f) (ho : f.offset = off) (hs : P.cellsOf f.type = sz) (h : Opens P f.type e ok) (hr2 : From P fs (i + 1) (off + sz) total e2 ok2) :
    From P fs i off total (fun p : α × β => e p.1 ++ e2 p.2) (fun p => ok p.1 ∧ ok2 p.2) := by
  intro H enc w base spare held n cs xs hcs hxs hr hw
  have hi : i < fs.size := by
    rcases Nat.lt_or_ge i fs.size with h | h
    · exact h
    · rw [Array.getElem?_eq_none h] at hf; cases hf
  have h1 := hr i f hf
  have hx : i < xs.length := by omega
  rw [List.getElem?_eq_getElem hx, ho, hs] at h1
  obtain ⟨a, hK, hok⟩ := h H enc w base spare held n _ _ h1 (hw i f _ hf (List.getElem?_eq_getElem hx))
  obtain ⟨b, hK2, hok2⟩ := hr2 H enc w base spare held n cs xs hcs hxs hr hw
  refine ⟨(a, b), ?_, hok, hok2⟩
  have e0 : cs.drop off = (cs.drop off).take sz ++ cs.drop (off + sz) := by rw [← List.drop_drop, List.take_append_drop]
  rw [e0]
  exact hK.append hK2
theorem opens_struct {t : TypeId} {fs : Array Field} {total : Nat} {α : Type} {e : α → List PV} {ok : α → Prop} (ht : P.underlying t = some (.struct fs)) (htot : P.cellsOf t = total) (h : From P fs 0 0 total e ok) : Opens P t e ok := by
  intro H enc w base spare held fuel cs x hx hw
  obtain ⟨xs, n, _, rfl, hl, hlen, hr⟩ := DataW.trod_struct ht hx
  obtain ⟨a, hK, hok⟩ := h H enc w base spare held n cs xs (hl.trans htot) hlen hr (fun j f d hf hd m hm => hw m (by
    simp only [DataW.weights, ht]
    exact DataW.weights_mem_each (j := j) (t := f.type) (d := d.1) (by rw [List.getElem?_map]; simp [hf]) (by rw [List.getElem?_map, hd]; rfl) m hm))
  exact ⟨a, by simpa using hK, hok⟩
/-- A parameter, opened. -/
theorem opened {H : Type} {enc : TypeId × Value → H} {w : World} {base : Nat} {spare : Nat → Bool} {held : Bool} {t : TypeId} {v : Value} {d : DataW H} {ps : List MemPlace} {ts : List TypeId} {ds : List (DataW H)} {j : Nat} {α : Type} {e : α → List PV} {ok : α → Prop}
    (ho : Opens P t e ok) (hsz : (DataW.weightsEach P ts ds).all (· ≤ reachBytes) = true) (ht : ts[j]? = some t) (hd : ds[j]? = some d) (h : DataW.Trod enc P w base spare held t v d ps) : ∃ a, Fa (fun p v => RepP (Was w) w p v) (e a) v.cells.toList ∧ ok a := by
  obtain ⟨fuel, hf⟩ := h
  exact ho H enc w base spare held fuel _ _ hf (fun n hn => by
    have := List.all_eq_true.1 hsz _ (DataW.weights_mem_each ht hd n hn)
    simpa using this)
/-- Cells that stand for values, as leaves of an argument. -/
theorem leaves_of {w : World} : ∀ {ps : List PV} {cs : List Value}, Fa (fun p v => RepP (Was w) w p v) ps cs → Fa (RepL (Gh.base (Was w)) [] w) (ps.map .pv) cs
  | [], [], _ => trivial
  | _ :: _, _ :: _, h => ⟨h.1, leaves_of h.2⟩
  | [], _ :: _, h => h.elim
  | _ :: _, [], h => h.elim
/-- A call by contract, from a world as a law has it. -/
theorem Con.law {f : FuncId} {args : List AV} {r : AV} (h : Con P f args r []) (hs : scalA r = true) {w : World} {us : List Value} (hu : Fa (RepA (Gh.base (Was w)) [] w) args us) {v : Value} (hv : ∀ (G : Gh) (w' : World) (u : Value), RepA G [] w' r u → u = v) :
    Calls P f us.toArray w fun e w' => e = .returned v ∧ Below w.heap.size w w' := by
  refine (h.2.2 w (Was w) us (fun g o h => h) hu).mono ?_
  rintro e w' ⟨u, G, rfl, hr, hm⟩
  rw [hv G w' u hr]
  exact ⟨rfl, hm.os, hm.tape, hm.output, hm.size, fun g hg => hm.block g hg (fun b hb => absurd hb (Nat.not_lt_zero _))⟩
end Go.Rx.Lift
