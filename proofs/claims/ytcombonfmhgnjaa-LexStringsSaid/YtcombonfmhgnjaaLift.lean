/- What a reading of an argument tells: the plain values that it holds, of whatever nested kind, with the form's bounds on each part. -/
import Derived.SizedLaws
import Derived.ChangeArms
import Derived.ChangeSlices
import Derived.Test.YtcombonfmhgnjaaWWords
set_option linter.unusedVariables false
set_option linter.unusedSimpArgs false
namespace Go.Proofs.Ytcombonfmhgnjaa.Lift
open Go.RowKit Go.WideShapes Go.ChangeShapes Go.Proofs.YtcombonfmhgnjaaW.PrintWords

/-- A value of type t that reads as data is one of the kind kd, and ok holds of it. -/
def Opens (P : Program) (t : TypeId) {α : Type} (kd : Kd α) (ok : α → Prop) : Prop :=
  ∀ (H : Type) (enc : TypeId × Value → H) (w : World) (base : Nat) (spare : Nat → Bool) (held : Bool) (fuel : Nat) (cs : List Value) (x : DataW H × List MemPlace),
    DataW.trod enc P w base spare held fuel t cs = some x → (∀ n ∈ x.1.weights P t, n ≤ reachBytes) → ∃ a, kd.K w a cs ∧ ok a

variable {P : Program}

theorem opens_int {t : TypeId} {k : IntKind} (ht : P.underlying t = some (.int k)) : Opens P t (Kd.int k) (fun n => (Lit.int k n).wf = true) := by
  intro H enc w base spare held fuel cs x h _
  obtain ⟨n, rfl, _, hw⟩ := DataW.trod_int ht h
  exact ⟨n, rfl, hw⟩
theorem opens_bool {t : TypeId} (ht : P.underlying t = some .bool) : Opens P t Kd.bool (fun _ => True) := by
  intro H enc w base spare held fuel cs x h _
  obtain ⟨b, rfl, _⟩ := DataW.trod_bool ht h
  exact ⟨b, rfl, trivial⟩
theorem opens_string {t : TypeId} (ht : P.underlying t = some .string) : Opens P t Kd.string (fun s => s.size ≤ 140737488351232) := by
  intro H enc w base spare held fuel cs x h hw
  obtain ⟨s, rfl, rfl, _⟩ := DataW.trod_string ht h
  refine ⟨s, rfl, ?_⟩
  have := hw s.data.toList.length (by simp [DataW.weights])
  rw [Array.length_toList] at this
  exact this
theorem cells_get {w : World} {base : Nat} {a : Addr} {n : Nat} {cs : List Value} (h : w.cells? base a n = some cs) : cs.length = n ∧ ∀ i u, cs[i]? = some u → w.cell? (a.add i) = some u := by
  obtain ⟨_, hl, hc⟩ := World.cells?_some h
  refine ⟨hl, fun i u hu => ?_⟩
  have hi : i < n := by rw [← hl]; exact (List.getElem?_eq_some_iff.1 hu).1
  rw [hc i hi, hu]
theorem weightsAll_mem {H : Type} {e : TypeId} : ∀ {l : List (DataW H)} {d : DataW H}, d ∈ l → ∀ n ∈ d.weights P e, n ∈ DataW.weightsAll P e l
  | d0 :: l, d, hd, n, hn => by
    simp only [DataW.weightsAll, List.mem_append]
    rcases List.mem_cons.1 hd with rfl | hd
    · exact .inl hn
    · exact .inr (weightsAll_mem hd n hn)
theorem list_of {α : Type} {Q : Nat → α → Prop} : ∀ {len : Nat}, (∀ i, i < len → ∃ p, Q i p) → ∃ l : List α, l.length = len ∧ ∀ i p, l[i]? = some p → Q i p
  | 0, _ => ⟨[], rfl, by simp⟩
  | m + 1, each => by
    obtain ⟨l, h1, h2⟩ := list_of (len := m) (fun i hi => each i (by omega))
    obtain ⟨p, hp⟩ := each m (by omega)
    refine ⟨l ++ [p], by simp [h1], fun i q hq => ?_⟩
    rcases Nat.lt_trichotomy i m with hi | hi | hi
    · rw [List.getElem?_append_left (by omega)] at hq
      exact h2 i q hq
    · subst hi
      rw [List.getElem?_append_right (by omega), h1] at hq
      simp at hq
      subst hq
      exact hp
    · rw [List.getElem?_eq_none (by simp; omega)] at hq
      cases hq
theorem opens_slice {t e : TypeId} {α : Type} {kd : Kd α} {ok : α → Prop} {B : Nat} (ht : P.underlying t = some (.slice e)) (hc : P.cellsOf e = kd.sz) (hB : P.bytesOf e = B) (he : Opens P e kd ok) :
    Opens P t (Kd.slice e kd) (fun l => l.length * B ≤ 140737488351232 ∧ l.length ≤ 9223372036854775807 ∧ ∀ a ∈ l, ok a) := by
  intro H enc w base spare held fuel cs x h hw
  rcases DataW.trod_slice ht h with ⟨rfl, rfl⟩ | ⟨a, len, cap, elems, rest, n, _, rfl, rfl, _, hl, hm, hlen, hel, _, _⟩
  · exact ⟨[], ⟨none, 0, rfl, Nat.le_refl _, rfl, by simp, fun h => absurd h (by simp)⟩, by simp, by simp, by simp⟩
  · have each : ∀ i, i < len → ∃ p : α, ok p ∧ ∃ c, c.length = kd.sz ∧ kd.K w p c ∧ ∀ j u, c[j]? = some u → w.cell? (a.add (i * kd.sz + j)) = some u := by
      intro i hi
      have h1 := hel i hi
      rw [hc] at h1
      have hil : i < elems.length := by omega
      rw [List.getElem?_eq_getElem hil, Option.bind_eq_some_iff] at h1
      obtain ⟨c, hcs, hr⟩ := h1
      obtain ⟨hlc, hcell⟩ := cells_get hcs
      obtain ⟨p, hK, hok⟩ := he H enc w base spare held n c _ hr (fun m hm => hw m (by
        simp only [DataW.weights, ht, List.mem_cons, List.mem_append]
        refine .inr (.inl ?_)
        exact weightsAll_mem (List.mem_map_of_mem (List.getElem_mem hil)) m hm))
      refine ⟨p, hok, c, hlc, hK, fun j u hu => ?_⟩
      have := hcell j u hu
      rw [Addr.add_add] at this
      exact this
    obtain ⟨l, h1, h2⟩ := list_of each
    have hm' : cap ≤ 9223372036854775807 := by simpa only [maxLen] using hm
    have hbytes : (elems.length + rest.length) * B ≤ 140737488351232 := by
      have := hw ((elems.length + rest.length) * B) (by simp [DataW.weights, ht, hB])
      exact this
    refine ⟨l, ⟨some a, cap, by rw [h1], by omega, rfl, by omega, fun _ => ⟨a, rfl, fun j p hj => (h2 j p hj).2⟩⟩, ?_, by omega, fun p hp => ?_⟩
    · rw [h1]
      exact Nat.le_trans (Nat.mul_le_mul_right _ (by omega)) hbytes
    · obtain ⟨i, hi⟩ := List.getElem?_of_mem hp
      exact (h2 i p hi).1
theorem opens_iso {t : TypeId} {α β : Type} {kd : Kd α} {ok : α → Prop} (g : β → α) (hg : ∀ a, ∃ b, g b = a) (h : Opens P t kd ok) : Opens P t (Kd.iso kd g) (fun b => ok (g b)) := by
  intro H enc w base spare held fuel cs x hx hw
  obtain ⟨a, hK, hok⟩ := h H enc w base spare held fuel cs x hx hw
  obtain ⟨b, rfl⟩ := hg a
  exact ⟨b, hK, hok⟩
theorem opens_imp {t : TypeId} {α : Type} {kd : Kd α} {ok ok' : α → Prop} (h : Opens P t kd ok) (hi : ∀ a, ok a → ok' a) : Opens P t kd ok' := by
  intro H enc w base spare held fuel cs x hx hw
  obtain ⟨a, hK, hok⟩ := h H enc w base spare held fuel cs x hx hw
  exact ⟨a, hK, hi a hok⟩

/-- A struct's fields from field i on, whose cells begin at off. -/
def From (P : Program) (fs : Array Field) (i off total : Nat) {α : Type} (kd : Kd α) (ok : α → Prop) : Prop :=
  ∀ (H : Type) (enc : TypeId × Value → H) (w : World) (base : Nat) (spare : Nat → Bool) (held : Bool) (n : Nat) (cs : List Value) (xs : List (DataW H × List MemPlace)),
    cs.length = total → xs.length = fs.size →
    (∀ (j : Nat) (f : Field), fs[j]? = some f → DataW.trod enc P w base spare held n f.type ((cs.drop f.offset).take (P.cellsOf f.type)) = xs[j]?) →
    (∀ (j : Nat) (f : Field) (d : DataW H × List MemPlace), fs[j]? = some f → xs[j]? = some d → ∀ m ∈ d.1.weights P f.type, m ≤ reachBytes) →
    ∃ a, kd.K w a (cs.drop off) ∧ ok a
theorem from_last {fs : Array Field} {i off total : Nat} {f : Field} {α : Type} {kd : Kd α} {ok : α → Prop} (hf : fs[i]? = some f) (ho : f.offset = off) (hs : P.cellsOf f.type = kd.sz) (htot : off + kd.sz = total) (h : Opens P f.type kd ok) : From P fs i off total kd ok := by
  intro H enc w base spare held n cs xs hcs hxs hr hw
  have hi : i < fs.size := by
    rcases Nat.lt_or_ge i fs.size with h | h
    · exact h
    · rw [Array.getElem?_eq_none h] at hf; cases hf
  have h1 := hr i f hf
  have hx : i < xs.length := by omega
  rw [List.getElem?_eq_getElem hx, ho, hs, List.take_of_length_le (by rw [List.length_drop]; omega)] at h1
  exact h H enc w base spare held n _ _ h1 (hw i f _ hf (List.getElem?_eq_getElem hx))
theorem from_cons {fs : Array Field} {i off total : Nat} {f : Field} {α β : Type} {kd : Kd α} {ok : α → Prop} {kd2 : Kd β} {ok2 : β → Prop} (hf : fs[i]? = some f) (ho : f.offset = off) (hs : P.cellsOf f.type = kd.sz) (h : Opens P f.type kd ok) (hr2 : From P fs (i + 1) (off + kd.sz) total kd2 ok2) :
    From P fs i off total (Kd.pair kd kd2) (fun p => ok p.1 ∧ ok2 p.2) := by
  intro H enc w base spare held n cs xs hcs hxs hr hw
  have hi : i < fs.size := by
    rcases Nat.lt_or_ge i fs.size with h | h
    · exact h
    · rw [Array.getElem?_eq_none h] at hf; cases hf
  have h1 := hr i f hf
  have hx : i < xs.length := by omega
  rw [List.getElem?_eq_getElem hx, ho, hs] at h1
  obtain ⟨a, hK, hok⟩ := h H enc w base spare held n _ _ h1 (hw i f _ hf (List.getElem?_eq_getElem hx))
  obtain ⟨b, hK2, hok2⟩ := hr2 H enc w base spare held n cs xs hcs hxs hr hw
  refine ⟨(a, b), ⟨(cs.drop off).take kd.sz, cs.drop (off + kd.sz), ?_, hK, hK2⟩, hok, hok2⟩
  rw [← List.drop_drop, List.take_append_drop]
theorem opens_struct {t : TypeId} {fs : Array Field} {total : Nat} {α : Type} {kd : Kd α} {ok : α → Prop} (ht : P.underlying t = some (.struct fs)) (htot : P.cellsOf t = total) (h : From P fs 0 0 total kd ok) : Opens P t kd ok := by
  intro H enc w base spare held fuel cs x hx hw
  obtain ⟨xs, n, _, rfl, hl, hlen, hr⟩ := DataW.trod_struct ht hx
  obtain ⟨a, hK, hok⟩ := h H enc w base spare held n cs xs (hl.trans htot) hlen hr (fun j f d hf hd m hm => hw m (by
    simp only [DataW.weights, ht]
    exact DataW.weights_mem_each (j := j) (t := f.type) (d := d.1) (by rw [List.getElem?_map]; simp [hf]) (by rw [List.getElem?_map, hd]; rfl) m hm))
  exact ⟨a, by simpa using hK, hok⟩
/-- A parameter, opened. -/
theorem opened {H : Type} {enc : TypeId × Value → H} {w : World} {base : Nat} {spare : Nat → Bool} {held : Bool} {t : TypeId} {v : Value} {d : DataW H} {ps : List MemPlace} {ts : List TypeId} {ds : List (DataW H)} {j : Nat} {α : Type} {kd : Kd α} {ok : α → Prop}
    (ho : Opens P t kd ok) (hsz : (DataW.weightsEach P ts ds).all (· ≤ reachBytes) = true) (ht : ts[j]? = some t) (hd : ds[j]? = some d) (h : DataW.Trod enc P w base spare held t v d ps) : ∃ a, kd.K w a v.cells.toList ∧ ok a := by
  obtain ⟨fuel, hf⟩ := h
  exact ho H enc w base spare held fuel _ _ hf (fun n hn => by
    have := List.all_eq_true.1 hsz _ (DataW.weights_mem_each ht hd n hn)
    simpa using this)
end Go.Proofs.Ytcombonfmhgnjaa.Lift
