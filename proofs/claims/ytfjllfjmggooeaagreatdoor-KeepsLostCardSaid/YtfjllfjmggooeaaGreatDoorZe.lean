/- The texts of the proof, part 5, in order. -/
import Derived.SizedLaws
import Derived.ChangeArms
import Derived.ChangeSlices
import Derived.Test.YtfjllfjmggooeaaGreatDoorZd
import Derived.Test.YtfjllfjmggooeaaGreatDoorProg
import Derived.KernelRfl
import Derived.Test.YtfjllfjmggooeaaGreatDoorShelf
import Derived.Tactics
import Derived.WalkKit
import Derived.Lib.Strings
import Derived.Lib.Walk
import Derived.Lib.Builder
import Derived.Lib.UnsafeStr
import Derived.Laws.Externs
import Derived.Lib.Hide
import Derived.WalkSpells
import Derived.Below
import Derived.Laws.RangeString
import Derived.Laws.RangeAny
/- What a reading of an argument tells: the plain values that it holds. -/
set_option linter.unusedVariables false
set_option linter.unusedSimpArgs false
namespace Go.Rx.Lift
open Go.RowKit Go.WideShapes Go.ChangeShapes Go.Rx
/-- What was there. -/
def Was (w : World) (g _o : Nat) : Prop := g < w.heap.size
/-- A value of type t that reads as data is, cell by cell, what e says of some a, and ok holds of it. -/
def Opens (P : Program) (t : TypeId) {α : Type} (e : α → List PV) (ok : α → Prop) : Prop :=
  ∀ (H : Type) (enc : TypeId × Value → H) (w : World) (base : Nat) (spare : Nat → Bool) (held : Bool) (fuel : Nat) (cs : List Value) (x : DataW H × List MemPlace),
    DataW.trod enc P w base spare held fuel t cs = some x → (∀ n ∈ x.1.weights P t, n ≤ reachBytes) → ∃ a, Fa (fun p v => RepP (Was w) w p v) (e a) cs ∧ ok a

variable {P : Program}

theorem opens_int {t : TypeId} {k : IntKind} (ht : P.underlying t = some (.int k)) : Opens P t (fun n : Int => [.sc (.int k n)]) (fun n => (Lit.int k n).wf = true) := by
  intro H enc w base spare held fuel cs x h _
  obtain ⟨n, rfl, _, hw⟩ := DataW.trod_int ht h
  exact ⟨n, ⟨.sc _ rfl, trivial⟩, hw⟩
theorem opens_bool {t : TypeId} (ht : P.underlying t = some .bool) : Opens P t (fun b : Bool => [.sc (.bool b)]) (fun _ => True) := by
  intro H enc w base spare held fuel cs x h _
  obtain ⟨b, rfl, _⟩ := DataW.trod_bool ht h
  exact ⟨b, ⟨.sc _ rfl, trivial⟩, trivial⟩
theorem opens_string {t : TypeId} (ht : P.underlying t = some .string) : Opens P t (fun s : ByteArray => [.sc (.string s)]) (fun s => s.size ≤ 140737488351232) := by
  intro H enc w base spare held fuel cs x h hw
  obtain ⟨s, rfl, rfl, _⟩ := DataW.trod_string ht h
  refine ⟨s, ⟨.sc _ rfl, trivial⟩, ?_⟩
  have := hw s.data.toList.length (by simp [DataW.weights])
  rw [Array.length_toList] at this
  exact this
theorem cells_get {w : World} {base : Nat} {a : Addr} {n : Nat} {cs : List Value} (h : w.cells? base a n = some cs) : cs.length = n ∧ ∀ i u, cs[i]? = some u → w.cell? (a.add i) = some u := by
  obtain ⟨_, hl, hc⟩ := World.cells?_some h
  refine ⟨hl, fun i u hu => ?_⟩
  have hi : i < n := by rw [← hl]; exact (List.getElem?_eq_some_iff.1 hu).1
  rw [hc i hi, hu]
theorem weightsAll_mem {H : Type} {e : TypeId} : ∀ {l : List (DataW H)} {d : DataW H}, d ∈ l → ∀ n ∈ d.weights P e, n ∈ DataW.weightsAll P e l
  | d0 :: l, d, hd, n, hn => by
    simp only [DataW.weightsAll, List.mem_append]
    rcases List.mem_cons.1 hd with rfl | hd
    · exact .inl hn
    · exact .inr (weightsAll_mem hd n hn)
theorem list_of {α : Type} {Q : Nat → α → Prop} : ∀ {len : Nat}, (∀ i, i < len → ∃ p, Q i p) → ∃ l : List α, l.length = len ∧ ∀ i p, l[i]? = some p → Q i p
  | 0, _ => ⟨[], rfl, by simp⟩
  | m + 1, each => by
    obtain ⟨l, h1, h2⟩ := list_of (len := m) (fun i hi => each i (by omega))
    obtain ⟨p, hp⟩ := each m (by omega)
    refine ⟨l ++ [p], by simp [h1], fun i q hq => ?_⟩
    rcases Nat.lt_trichotomy i m with hi | hi | hi
    · rw [List.getElem?_append_left (by omega)] at hq
      exact h2 i q hq
    · subst hi
      rw [List.getElem?_append_right (by omega), h1] at hq
      simp at hq
      subst hq
      exact hp
    · rw [List.getElem?_eq_none (by simp; omega)] at hq
      cases hq
theorem cell_spot {w : World} {a : Addr} {u : Value} (h : w.cell? a = some u) : a.spot = none ∧ a.block < w.heap.size := by
  unfold World.cell? at h
  cases hb : w.heap[a.block]? with
  | none => rw [hb] at h; cases h
  | some o =>
    rw [hb] at h
    have hlt : a.block < w.heap.size := by
      rcases Nat.lt_or_ge a.block w.heap.size with h' | h'
      · exact h'
      · rw [Array.getElem?_eq_none h'] at hb; cases hb
    cases o with
    | cells c e fz =>
      refine ⟨?_, hlt⟩
      simp only at h
      split at h
      · cases h
      · rename_i hs; simpa using hs
    | _ => cases h
theorem opens_slice {t el : TypeId} {α : Type} {e : α → List PV} {ok : α → Prop} {sz B : Nat} (ht : P.underlying t = some (.slice el)) (hc : P.cellsOf el = sz) (hpos : 0 < sz) (hB : P.bytesOf el = B) (he : Opens P el e ok) :
    Opens P t (fun l : List α => [.sl sz (l.map e)]) (fun l => l.length * B ≤ 140737488351232 ∧ ∀ a ∈ l, ok a) := by
  intro H enc w base spare held fuel cs x h hw
  rcases DataW.trod_slice ht h with ⟨rfl, rfl⟩ | ⟨a, len, cap, elems, rest, n, _, rfl, rfl, _, hl, hm, hlen, hel, _, _⟩
  · exact ⟨[], ⟨.nil sz, trivial⟩, by simp, by simp⟩
  · have each : ∀ i, i < len → ∃ p : α, ok p ∧ ∃ c, c.length = sz ∧ Fa (fun p v => RepP (Was w) w p v) (e p) c ∧ ∀ j u, c[j]? = some u → w.cell? (a.add (i * sz + j)) = some u := by
      intro i hi
      have h1 := hel i hi
      rw [hc] at h1
      have hil : i < elems.length := by omega
      rw [List.getElem?_eq_getElem hil, Option.bind_eq_some_iff] at h1
      obtain ⟨c, hcs, hr⟩ := h1
      obtain ⟨hlc, hcell⟩ := cells_get hcs
      obtain ⟨p, hK, hok⟩ := he H enc w base spare held n c _ hr (fun m hm => hw m (by
        simp only [DataW.weights, ht, List.mem_cons, List.mem_append]
        refine .inr (.inl ?_)
        exact weightsAll_mem (List.mem_map_of_mem (List.getElem_mem hil)) m hm))
      refine ⟨p, hok, c, hlc, hK, fun j u hu => ?_⟩
      have := hcell j u hu
      rw [Addr.add_add] at this
      exact this
    obtain ⟨l, h1, h2⟩ := list_of each
    have hbytes : (elems.length + rest.length) * B ≤ 140737488351232 := by
      have := hw ((elems.length + rest.length) * B) (by simp [DataW.weights, ht, hB])
      exact this
    refine ⟨l, ⟨?_, trivial⟩, ?_, fun p hp => ?_⟩
    · by_cases h0 : len = 0
      · subst h0
        have : l = [] := List.eq_nil_of_length_eq_zero h1
        subst this
        exact RepP.emp sz a cap
      · -- there is a row: the address has no spot
        have sp : a.spot = none ∧ a.block < w.heap.size := by
          obtain ⟨p, hp⟩ : ∃ p, l[0]? = some p := ⟨l[0]'(by omega), List.getElem?_eq_getElem (by omega)⟩
          obtain ⟨_, c, hcl, _, hcc⟩ := h2 0 p hp
          obtain ⟨u, hu⟩ : ∃ u, c[0]? = some u := ⟨c[0]'(by omega), List.getElem?_eq_getElem (by omega)⟩
          have := hcc 0 u hu
          rw [Nat.zero_mul, Nat.add_zero] at this
          have e0 : a.add 0 = a := by unfold Addr.add; rw [if_pos rfl]
          rw [e0] at this
          exact cell_spot this
        obtain ⟨g, o, s⟩ := a
        obtain ⟨hs1, hs2⟩ := sp
        simp only at hs1 hs2
        subst hs1
        have hcl : ∀ (i : Nat) (p : α) (k : Nat) (q : PV), l[i]? = some p → (e p)[k]? = some q → ∃ u, w.cell? ⟨g, o + (i * sz + k), none⟩ = some u ∧ RepP (Was w) w q u := fun i p k q hi hk => by
          obtain ⟨_, c, hcl, hK, hcc⟩ := h2 i p hi
          obtain ⟨u, hu, hr⟩ := hK.get hk
          have := hcc k u hu
          rw [Addr.add_lit] at this
          exact ⟨u, this, hr⟩
        rw [show len = (l.map e).length by rw [List.length_map, h1]]
        refine RepP.sl sz g o cap (l.map e) (fun i k => (w.cell? ⟨g, o + (i * sz + k), none⟩).getD undef) (by rw [List.length_map]; omega) (fun r hr => ?_) (fun j r c p hj hp => ?_) (fun j r c p hj hp => ?_)
        · obtain ⟨p, hp, rfl⟩ := List.mem_map.1 hr
          obtain ⟨i, hi⟩ := List.getElem?_of_mem hp
          obtain ⟨_, c, hcl', hK, _⟩ := h2 i p hi
          rw [hK.length, hcl']
        · rw [List.getElem?_map, Option.map_eq_some_iff] at hj
          obtain ⟨q, hq, rfl⟩ := hj
          obtain ⟨u, hu, _⟩ := hcl j q c p hq hp
          rw [hu]
          exact ⟨hs2, rfl⟩
        · rw [List.getElem?_map, Option.map_eq_some_iff] at hj
          obtain ⟨q, hq, rfl⟩ := hj
          obtain ⟨u, hu, hr⟩ := hcl j q c p hq hp
          rw [hu]
          exact hr
    · rw [h1]
      exact Nat.le_trans (Nat.mul_le_mul_right _ (by omega)) hbytes
    · obtain ⟨i, hi⟩ := List.getElem?_of_mem hp
      exact (h2 i p hi).1
/-- The same of values of another make. -/
theorem opens_iso {t : TypeId} {α β : Type} {e : α → List PV} {ok : α → Prop} {e' : β → List PV} {ok' : β → Prop} (f : α → β) (he : ∀ a, e' (f a) = e a) (hok : ∀ a, ok a → ok' (f a)) (h : Opens P t e ok) : Opens P t e' ok' := by
  intro H enc w base spare held fuel cs x hx hw
  obtain ⟨a, hK, hk⟩ := h H enc w base spare held fuel cs x hx hw
  exact ⟨f a, by rw [he]; exact hK, hok a hk⟩

/-- A struct's fields from field i on, whose cells begin at off. -/
def From (P : Program) (fs : Array Field) (i off total : Nat) {α : Type} (e : α → List PV) (ok : α → Prop) : Prop :=
  ∀ (H : Type) (enc : TypeId × Value → H) (w : World) (base : Nat) (spare : Nat → Bool) (held : Bool) (n : Nat) (cs : List Value) (xs : List (DataW H × List MemPlace)),
    cs.length = total → xs.length = fs.size →
    (∀ (j : Nat) (f : Field), fs[j]? = some f → DataW.trod enc P w base spare held n f.type ((cs.drop f.offset).take (P.cellsOf f.type)) = xs[j]?) →
    (∀ (j : Nat) (f : Field) (d : DataW H × List MemPlace), fs[j]? = some f → xs[j]? = some d → ∀ m ∈ d.1.weights P f.type, m ≤ reachBytes) →
    ∃ a, Fa (fun p v => RepP (Was w) w p v) (e a) (cs.drop off) ∧ ok a
theorem from_last {fs : Array Field} {i off total : Nat} {f : Field} {α : Type} {e : α → List PV} {ok : α → Prop} (sz : Nat) (hf : fs[i]? = some f) (ho : f.offset = off) (hs : P.cellsOf f.type = sz) (htot : off + sz = total) (h : Opens P f.type e ok) : From P fs i off total e ok := by
  intro H enc w base spare held n cs xs hcs hxs hr hw
  have hi : i < fs.size := by
    rcases Nat.lt_or_ge i fs.size with h | h
    · exact h
    · rw [Array.getElem?_eq_none h] at hf; cases hf
  have h1 := hr i f hf
  have hx : i < xs.length := by omega
  rw [List.getElem?_eq_getElem hx, ho, hs, List.take_of_length_le (by rw [List.length_drop]; omega)] at h1
  exact h H enc w base spare held n _ _ h1 (hw i f _ hf (List.getElem?_eq_getElem hx))
theorem from_cons {fs : Array Field} {i off total : Nat} {f : Field} {α β : Type} {e : α → List PV} {ok : α → Prop} {e2 : β → List PV} {ok2 : β → Prop} (sz : Nat) (hf : fs[i]? = some f) (ho : f.offset = off) (hs : P.cellsOf f.type = sz) (h : Opens P f.type e ok) (hr2 : From P fs (i + 1) (off + sz) total e2 ok2) :
    From P fs i off total (fun p : α × β => e p.1 ++ e2 p.2) (fun p => ok p.1 ∧ ok2 p.2) := by
  intro H enc w base spare held n cs xs hcs hxs hr hw
  have hi : i < fs.size := by
    rcases Nat.lt_or_ge i fs.size with h | h
    · exact h
    · rw [Array.getElem?_eq_none h] at hf; cases hf
  have h1 := hr i f hf
  have hx : i < xs.length := by omega
  rw [List.getElem?_eq_getElem hx, ho, hs] at h1
  obtain ⟨a, hK, hok⟩ := h H enc w base spare held n _ _ h1 (hw i f _ hf (List.getElem?_eq_getElem hx))
  obtain ⟨b, hK2, hok2⟩ := hr2 H enc w base spare held n cs xs hcs hxs hr hw
  refine ⟨(a, b), ?_, hok, hok2⟩
  have e0 : cs.drop off = (cs.drop off).take sz ++ cs.drop (off + sz) := by rw [← List.drop_drop, List.take_append_drop]
  rw [e0]
  exact hK.append hK2
theorem opens_struct {t : TypeId} {fs : Array Field} {total : Nat} {α : Type} {e : α → List PV} {ok : α → Prop} (ht : P.underlying t = some (.struct fs)) (htot : P.cellsOf t = total) (h : From P fs 0 0 total e ok) : Opens P t e ok := by
  intro H enc w base spare held fuel cs x hx hw
  obtain ⟨xs, n, _, rfl, hl, hlen, hr⟩ := DataW.trod_struct ht hx
  obtain ⟨a, hK, hok⟩ := h H enc w base spare held n cs xs (hl.trans htot) hlen hr (fun j f d hf hd m hm => hw m (by
    simp only [DataW.weights, ht]
    exact DataW.weights_mem_each (j := j) (t := f.type) (d := d.1) (by rw [List.getElem?_map]; simp [hf]) (by rw [List.getElem?_map, hd]; rfl) m hm))
  exact ⟨a, by simpa using hK, hok⟩
/-- A parameter, opened. -/
theorem opened {H : Type} {enc : TypeId × Value → H} {w : World} {base : Nat} {spare : Nat → Bool} {held : Bool} {t : TypeId} {v : Value} {d : DataW H} {ps : List MemPlace} {ts : List TypeId} {ds : List (DataW H)} {j : Nat} {α : Type} {e : α → List PV} {ok : α → Prop}
    (ho : Opens P t e ok) (hsz : (DataW.weightsEach P ts ds).all (· ≤ reachBytes) = true) (ht : ts[j]? = some t) (hd : ds[j]? = some d) (h : DataW.Trod enc P w base spare held t v d ps) : ∃ a, Fa (fun p v => RepP (Was w) w p v) (e a) v.cells.toList ∧ ok a := by
  obtain ⟨fuel, hf⟩ := h
  exact ho H enc w base spare held fuel _ _ hf (fun n hn => by
    have := List.all_eq_true.1 hsz _ (DataW.weights_mem_each ht hd n hn)
    simpa using this)
/-- Cells that stand for values, as leaves of an argument. -/
theorem leaves_of {w : World} : ∀ {ps : List PV} {cs : List Value}, Fa (fun p v => RepP (Was w) w p v) ps cs → Fa (RepL (Gh.base (Was w)) [] w) (ps.map .pv) cs
  | [], [], _ => trivial
  | _ :: _, _ :: _, h => ⟨h.1, leaves_of h.2⟩
  | [], _ :: _, h => h.elim
  | _ :: _, [], h => h.elim
/-- A call by contract, from a world as a law has it. -/
theorem Con.law {f : FuncId} {args : List AV} {r : AV} (h : Con P f args r []) (hs : scalA r = true) {w : World} {us : List Value} (hu : Fa (RepA (Gh.base (Was w)) [] w) args us) {v : Value} (hv : ∀ (G : Gh) (w' : World) (u : Value), RepA G [] w' r u → u = v) :
    Calls P f us.toArray w fun e w' => e = .returned v ∧ Below w.heap.size w w' := by
  refine (h.2.2 w (Was w) us (fun g o h => h) hu).mono ?_
  rintro e w' ⟨u, G, rfl, hr, hm⟩
  rw [hv G w' u hr]
  exact ⟨rfl, hm.os, hm.tape, hm.output, hm.size, fun g hg => hm.block g hg (fun b hb => absurd hb (Nat.not_lt_zero _))⟩
end Go.Rx.Lift

/- The types of the translation that the functions use, in short, against the program's own. -/
namespace Go.Proofs.YtfjllfjmggooeaaGreatDoor.Rx
open Go.Rx Go.Proofs
noncomputable abbrev P := Tryz.prog
def T : Tab := ⟨[
  (2, ⟨.int .i64, 1, 8, [.int .i64 0]⟩),
  (3, ⟨.int .i64, 1, 8, [.int .i64 0]⟩),
  (4, ⟨.bool, 1, 1, [.bool false]⟩),
  (5, ⟨.int .u8, 1, 1, [.int .u8 0]⟩),
  (6, ⟨.int .u8, 1, 1, [.int .u8 0]⟩),
  (7, ⟨.strct [(0, 2), (1, 3), (2, 4), (3, 6)], 4, 24, [.int .i64 0, .int .i64 0, .bool false, .int .u8 0]⟩),
  (8, ⟨.strct [(0, 2), (1, 3), (2, 4), (3, 6)], 4, 24, [.int .i64 0, .int .i64 0, .bool false, .int .u8 0]⟩),
  (9, ⟨.str, 1, 16, [.string ⟨#[]⟩]⟩),
  (10, ⟨.str, 1, 16, [.string ⟨#[]⟩]⟩),
  (11, ⟨.str, 1, 16, [.string ⟨#[]⟩]⟩),
  (12, ⟨.int .u64, 1, 8, [.int .u64 0]⟩),
  (20, ⟨.ifc, 1, 16, [.nilIface]⟩),
  (21, ⟨.int .i32, 1, 4, [.int .i32 0]⟩),
  (22, ⟨.strct [(0, 9), (1, 9), (2, 3)], 3, 40, [.string ⟨#[]⟩, .string ⟨#[]⟩, .int .i64 0]⟩),
  (23, ⟨.strct [(0, 9), (1, 9), (2, 3)], 3, 40, [.string ⟨#[]⟩, .string ⟨#[]⟩, .int .i64 0]⟩),
  (24, ⟨.slice 47, 1, 24, [.slice none 0 0]⟩),
  (25, ⟨.slice 44, 1, 24, [.slice none 0 0]⟩),
  (26, ⟨.slice 3, 1, 24, [.slice none 0 0]⟩),
  (27, ⟨.strct [(0, 3), (1, 23), (4, 24), (5, 25), (6, 26), (7, 3)], 8, 128, [.int .i64 0, .string ⟨#[]⟩, .string ⟨#[]⟩, .int .i64 0, .slice none 0 0, .slice none 0 0, .slice none 0 0, .int .i64 0]⟩),
  (28, ⟨.strct [(0, 3), (1, 23), (4, 24), (5, 25), (6, 26), (7, 3)], 8, 128, [.int .i64 0, .string ⟨#[]⟩, .string ⟨#[]⟩, .int .i64 0, .slice none 0 0, .slice none 0 0, .slice none 0 0, .int .i64 0]⟩),
  (29, ⟨.slice 75, 1, 24, [.slice none 0 0]⟩),
  (30, ⟨.strct [(0, 28), (8, 29)], 9, 152, [.int .i64 0, .string ⟨#[]⟩, .string ⟨#[]⟩, .int .i64 0, .slice none 0 0, .slice none 0 0, .slice none 0 0, .int .i64 0, .slice none 0 0]⟩),
  (31, ⟨.strct [(0, 28), (8, 29)], 9, 152, [.int .i64 0, .string ⟨#[]⟩, .string ⟨#[]⟩, .int .i64 0, .slice none 0 0, .slice none 0 0, .slice none 0 0, .int .i64 0, .slice none 0 0]⟩),
  (38, ⟨.slice 99, 1, 24, [.slice none 0 0]⟩),
  (39, ⟨.strct [(0, 3), (1, 9), (2, 9), (3, 38), (4, 3), (5, 4), (6, 4), (7, 3), (8, 3)], 9, 96, [.int .i64 0, .string ⟨#[]⟩, .string ⟨#[]⟩, .slice none 0 0, .int .i64 0, .bool false, .bool false, .int .i64 0, .int .i64 0]⟩),
  (40, ⟨.strct [(0, 3), (1, 9), (2, 9), (3, 38), (4, 3), (5, 4), (6, 4), (7, 3), (8, 3)], 9, 96, [.int .i64 0, .string ⟨#[]⟩, .string ⟨#[]⟩, .slice none 0 0, .int .i64 0, .bool false, .bool false, .int .i64 0, .int .i64 0]⟩),
  (41, ⟨.strct [(0, 3), (1, 3), (2, 3), (3, 9), (4, 9), (5, 38)], 6, 80, [.int .i64 0, .int .i64 0, .int .i64 0, .string ⟨#[]⟩, .string ⟨#[]⟩, .slice none 0 0]⟩),
  (42, ⟨.strct [(0, 3), (1, 3), (2, 3), (3, 9), (4, 9), (5, 38)], 6, 80, [.int .i64 0, .int .i64 0, .int .i64 0, .string ⟨#[]⟩, .string ⟨#[]⟩, .slice none 0 0]⟩),
  (43, ⟨.strct [(0, 40), (9, 3), (10, 3), (11, 42), (17, 4)], 18, 200, [.int .i64 0, .string ⟨#[]⟩, .string ⟨#[]⟩, .slice none 0 0, .int .i64 0, .bool false, .bool false, .int .i64 0, .int .i64 0, .int .i64 0, .int .i64 0, .int .i64 0, .int .i64 0, .int .i64 0, .string ⟨#[]⟩, .string ⟨#[]⟩, .slice none 0 0, .bool false]⟩),
  (44, ⟨.strct [(0, 40), (9, 3), (10, 3), (11, 42), (17, 4)], 18, 200, [.int .i64 0, .string ⟨#[]⟩, .string ⟨#[]⟩, .slice none 0 0, .int .i64 0, .bool false, .bool false, .int .i64 0, .int .i64 0, .int .i64 0, .int .i64 0, .int .i64 0, .int .i64 0, .int .i64 0, .string ⟨#[]⟩, .string ⟨#[]⟩, .slice none 0 0, .bool false]⟩),
  (45, ⟨.slice 102, 1, 24, [.slice none 0 0]⟩),
  (46, ⟨.strct [(0, 3), (1, 45), (2, 26)], 3, 56, [.int .i64 0, .slice none 0 0, .slice none 0 0]⟩),
  (47, ⟨.strct [(0, 3), (1, 45), (2, 26)], 3, 56, [.int .i64 0, .slice none 0 0, .slice none 0 0]⟩),
  (48, ⟨.int .i64, 1, 8, [.int .i64 0]⟩),
  (55, ⟨.slice 42, 1, 24, [.slice none 0 0]⟩),
  (56, ⟨.slice 9, 1, 24, [.slice none 0 0]⟩),
  (57, ⟨.strct [(0, 56), (1, 26)], 2, 48, [.slice none 0 0, .slice none 0 0]⟩),
  (58, ⟨.strct [(0, 56), (1, 26)], 2, 48, [.slice none 0 0, .slice none 0 0]⟩),
  (59, ⟨.strct [(0, 55), (1, 58)], 3, 72, [.slice none 0 0, .slice none 0 0, .slice none 0 0]⟩),
  (60, ⟨.strct [(0, 55), (1, 58)], 3, 72, [.slice none 0 0, .slice none 0 0, .slice none 0 0]⟩),
  (61, ⟨.slice 40, 1, 24, [.slice none 0 0]⟩),
  (62, ⟨.strct [(0, 60), (3, 61)], 4, 96, [.slice none 0 0, .slice none 0 0, .slice none 0 0, .slice none 0 0]⟩),
  (63, ⟨.strct [(0, 60), (3, 61)], 4, 96, [.slice none 0 0, .slice none 0 0, .slice none 0 0, .slice none 0 0]⟩),
  (74, ⟨.strct [(0, 3), (1, 3), (2, 42)], 8, 96, [.int .i64 0, .int .i64 0, .int .i64 0, .int .i64 0, .int .i64 0, .string ⟨#[]⟩, .string ⟨#[]⟩, .slice none 0 0]⟩),
  (75, ⟨.strct [(0, 3), (1, 3), (2, 42)], 8, 96, [.int .i64 0, .int .i64 0, .int .i64 0, .int .i64 0, .int .i64 0, .string ⟨#[]⟩, .string ⟨#[]⟩, .slice none 0 0]⟩),
  (93, ⟨.int .u64, 1, 8, [.int .u64 0]⟩),
  (98, ⟨.strct [(0, 9), (1, 3), (2, 9), (3, 9), (4, 9), (5, 3)], 6, 80, [.string ⟨#[]⟩, .int .i64 0, .string ⟨#[]⟩, .string ⟨#[]⟩, .string ⟨#[]⟩, .int .i64 0]⟩),
  (99, ⟨.strct [(0, 9), (1, 3), (2, 9), (3, 9), (4, 9), (5, 3)], 6, 80, [.string ⟨#[]⟩, .int .i64 0, .string ⟨#[]⟩, .string ⟨#[]⟩, .string ⟨#[]⟩, .int .i64 0]⟩),
  (100, ⟨.slice 5, 1, 24, [.slice none 0 0]⟩),
  (101, ⟨.strct [(0, 3), (1, 4), (2, 9), (3, 9), (4, 3)], 5, 56, [.int .i64 0, .bool false, .string ⟨#[]⟩, .string ⟨#[]⟩, .int .i64 0]⟩),
  (102, ⟨.strct [(0, 3), (1, 4), (2, 9), (3, 9), (4, 3)], 5, 56, [.int .i64 0, .bool false, .string ⟨#[]⟩, .string ⟨#[]⟩, .int .i64 0]⟩),
  (113, ⟨.strct [(0, 28)], 8, 128, [.int .i64 0, .string ⟨#[]⟩, .string ⟨#[]⟩, .int .i64 0, .slice none 0 0, .slice none 0 0, .slice none 0 0, .int .i64 0]⟩),
  (114, ⟨.strct [(0, 28)], 8, 128, [.int .i64 0, .string ⟨#[]⟩, .string ⟨#[]⟩, .int .i64 0, .slice none 0 0, .slice none 0 0, .slice none 0 0, .int .i64 0]⟩),
  (116, ⟨.ifc, 1, 16, [.nilIface]⟩),
  (117, ⟨.ifc, 1, 16, [.nilIface]⟩),
  (151, ⟨.other, 1, 8, [.pointer none]⟩),
  (153, ⟨.strct [], 0, 0, []⟩),
  (154, ⟨.strct [], 0, 0, []⟩),
  (156, ⟨.other, 1, 8, [.pointer none]⟩),
  (157, ⟨.strct [(0, 48)], 1, 8, [.int .i64 0]⟩),
  (158, ⟨.strct [(0, 48)], 1, 8, [.int .i64 0]⟩),
  (161, ⟨.other, 1, 8, [.pointer none]⟩),
  (179, ⟨.ifc, 1, 16, [.nilIface]⟩),
  (180, ⟨.ifc, 1, 16, [.nilIface]⟩),
  (184, ⟨.int .u64, 1, 8, [.int .u64 0]⟩),
  (189, ⟨.int .u8, 1, 1, [.int .u8 0]⟩),
  (206, ⟨.strct [(0, 9), (1, 4)], 2, 24, [.string ⟨#[]⟩, .bool false]⟩),
  (207, ⟨.strct [(0, 9), (1, 4)], 2, 24, [.string ⟨#[]⟩, .bool false]⟩),
  (218, ⟨.ifc, 1, 16, [.nilIface]⟩),
  (221, ⟨.ifc, 1, 16, [.nilIface]⟩),
  (222, ⟨.ifc, 1, 16, [.nilIface]⟩),
  (223, ⟨.slice 117, 1, 24, [.slice none 0 0]⟩),
  (227, ⟨.ifc, 1, 16, [.nilIface]⟩),
  (237, ⟨.int .u32, 1, 4, [.int .u32 0]⟩),
  (242, ⟨.strct [(0, 241), (1, 100)], 2, 32, [.pointer none, .slice none 0 0]⟩),
  (243, ⟨.strct [(0, 241), (1, 100)], 2, 32, [.pointer none, .slice none 0 0]⟩),
  (244, ⟨.strct [(0, 243)], 2, 32, [.pointer none, .slice none 0 0]⟩),
  (245, ⟨.strct [(0, 243)], 2, 32, [.pointer none, .slice none 0 0]⟩),
  (258, ⟨.int .u64, 1, 8, [.int .u64 0]⟩),
  (264, ⟨.slice 56, 1, 24, [.slice none 0 0]⟩),
  (288, ⟨.int .u8, 1, 1, [.int .u8 0]⟩),
  (290, ⟨.int .i32, 1, 4, [.int .i32 0]⟩),
  (291, ⟨.int .i32, 1, 4, [.int .i32 0]⟩),
  (300, ⟨.int .u16, 1, 2, [.int .u16 0]⟩),
  (303, ⟨.slice 306, 1, 24, [.slice none 0 0]⟩),
  (304, ⟨.int .i32, 1, 4, [.int .i32 0]⟩)
], [0, 1, 2, 64, 102, 105, 106, 140, 141, 159, 160, 170, 174, 184, 185, 186, 187, 188, 197, 202, 203, 210, 214, 224, 227, 230, 233, 235, 237, 239, 240, 241, 242, 243, 244, 245, 246, 248, 249, 251, 252, 253, 256, 266, 267, 268, 269, 270, 271, 272], [243, 245], [159]⟩
theorem T_ok : TabOK P T := tabOK_of (by kernel_rfl)
end Go.Proofs.YtfjllfjmggooeaaGreatDoor.Rx

/- What the small functions return. -/
set_option linter.unusedVariables false
set_option linter.unusedSimpArgs false
namespace Go.Proofs.YtfjllfjmggooeaaGreatDoor.Rx
open Go.Rx Go.Proofs

theorem numB_con (n m : Int) : Con P 42 [I n, I m] (Bl (decide (0 ≤ n) && decide (n ≤ m))) [] := by
  refine Con.of T_ok Tryz.func42 rfl (by kernel_rfl) (by kernel_rfl) (aw_of T_ok (by kernel_rfl) ?_)
  conv => whnf
  split <;> rename_i h <;> conv => whnf
  · refine retB ?_; rw [show decide (0 ≤ n) = true from h]; rfl
  · refine retB ?_; rw [show decide (0 ≤ n) = false from h]; rfl
theorem between_con (n lo hi : Int) : Con P 60 [I n, I lo, I hi] (Bl (decide (lo ≤ n) && decide (n ≤ hi))) [] := by
  refine Con.of T_ok Tryz.func60 rfl (by kernel_rfl) (by kernel_rfl) (aw_of T_ok (by kernel_rfl) ?_)
  conv => whnf
  split <;> rename_i h <;> conv => whnf
  · refine retB ?_; rw [show decide (lo ≤ n) = true from h]; rfl
  · refine retB ?_; rw [show decide (lo ≤ n) = false from h]; rfl

theorem eqSteps_con (a b : List Step) (ha : a.length * 80 ≤ 140737488351232) : Con P 36 [.lf (.pv (encSteps a)), .lf (.pv (encSteps b))] (Bl (decide (a = b))) [] := by
  refine Con.of T_ok Tryz.func36 rfl (by kernel_rfl) (by kernel_rfl) (aw_of T_ok (by kernel_rfl) ?_)
  conv => whnf
  split <;> rename_i h <;> conv => whnf
  · refine retB ?_
    symm
    rw [decide_eq_false_iff_not]
    rintro rfl
    simp at h
  · have hl : a.length = b.length := by simp at h; omega
    refine AW.loop (fun k : Nat => k ≤ a.length ∧ ∀ j, j < k → a[j]? = b[j]?) (fun k => [(0, .lf (.pv (encSteps a))), (1, .lf (.pv (encSteps b))), (5, Go.Rx.I k)]) (fun _ => []) (fun k => a.length - k) [] ?_ ?_
    · exact ⟨0, ⟨Nat.zero_le _, fun j hj => absurd hj (Nat.not_lt_zero _)⟩, ⟨rfl, rfl, rfl, trivial⟩, ⟨[], rfl⟩, rfl, rfl⟩
    · rintro k ⟨hk, hpre⟩
      refine aw_of T_ok (by kernel_rfl) ?_
      conv => whnf
      split <;> rename_i hlt <;> conv => whnf
      · have hka : k < a.length := by simp at hlt; omega
        have hkb : k < b.length := by omega
        refine AW.draw T_ok rfl (seqPl 0 9) (by kernel_rfl) (by kernel_rfl) ?_
        conv => whnf
        refine ⟨by omega, (a[k]).enc, by simp [hka], ?_⟩
        conv => whnf
        refine ⟨by omega, (b[k]).enc, by simp [hkb], ?_⟩
        conv => whnf
        split <;> rename_i hne <;> conv => whnf
        · refine retB ?_
          symm
          rw [decide_eq_false_iff_not]
          rintro rfl
          have h2 : (!(decide (a[k] = a[k]))) = true := by rw [← stepEq]; exact hne
          simp at h2
        · have he : a[k] = b[k] := by
            have h2 : (!(decide (a[k] = b[k]))) = false := by rw [← stepEq]; exact hne
            simpa using h2
          refine ⟨k + 1, ⟨⟨by omega, fun j hj => ?_⟩, by omega⟩, ⟨rfl, rfl, ?_, trivial⟩, ⟨[], rfl⟩, rfl, rfl⟩
          · by_cases e : j = k
            · subst e; rw [List.getElem?_eq_getElem hka, List.getElem?_eq_getElem hkb, he]
            · exact hpre j (by omega)
          · exact congrArg Go.Rx.I (wrapI (by omega))
      · refine retB ?_
        symm
        rw [decide_eq_true_eq]
        have hka : k = a.length := by simp at hlt; omega
        apply List.ext_getElem?
        intro j
        rcases Nat.lt_or_ge j k with hj | hj
        · exact hpre j hj
        · rw [List.getElem?_eq_none (by omega), List.getElem?_eq_none (by omega)]

theorem copySteps_con (l : List Step) (hl : l.length * 80 ≤ 140737488351232) : Con P 68 [.lf (.pv (encSteps l))] (.lf (.pv (encSteps l))) [] := by
  refine Con.of T_ok Tryz.func68 rfl (by kernel_rfl) (by kernel_rfl) (aw_of T_ok (by kernel_rfl) ?_)
  conv => whnf
  refine AW.loop (fun k : Nat => k ≤ l.length) (fun k => [(0, .lf (.pv (encSteps l))), (3, .lf (.own 0 k)), (4, Go.Rx.I k)]) (fun k => [.arr 99 6 ((l.take k).map Step.enc)]) (fun k => l.length - k) [.slot 3 99 6] ?_ ?_
  · exact ⟨rfl, 0, Nat.zero_le _, ⟨rfl, rfl, rfl, trivial⟩, ⟨[], rfl⟩, rfl, rfl⟩
  · intro k hk
    refine aw_of T_ok (by kernel_rfl) ?_
    conv => whnf
    split <;> rename_i hlt <;> conv => whnf
    · have hkl : k < l.length := by simp at hlt; omega
      refine ⟨by omega, (l[k]).enc, by simp [hkl], ?_⟩
      conv => whnf
      refine ⟨rfl, _, .inl rfl, ?_⟩
      conv => whnf
      refine ⟨by simp; omega, by show (k + 1) * 80 ≤ _; omega, ?_⟩
      conv => whnf
      refine ⟨k + 1, ⟨by omega, by omega⟩, ⟨rfl, rfl, congrArg Go.Rx.I (wrapI (by omega)), trivial⟩, ⟨[?r], ?e⟩, rfl, rfl⟩
      case e => show _ = [Blk.arr _ _ (List.map Step.enc (l.take (k + 1)))] ++ [_]; rw [take_succ' hkl, List.map_append]; rfl
    · have hkl : k = l.length := by simp at hlt; omega
      subst hkl
      refine ⟨by simp, ?_⟩
      refine retA ?_
      show some (AV.lf (.pv (.sl 6 _))) = _
      rw [List.take_length]
end Go.Proofs.YtfjllfjmggooeaaGreatDoor.Rx

/- Sagas and records: the same, copied, begun, ended. -/
set_option linter.unusedVariables false
set_option linter.unusedSimpArgs false
namespace Go.Proofs.YtfjllfjmggooeaaGreatDoor.Rx
open Go.Rx Go.Proofs

theorem eqSlices_con (a b : List Step) (ha : a.length * 80 ≤ 140737488351232) : Con P 162 [.lf (.pv (encSteps a)), .lf (.pv (encSteps b))] (Bl (decide (a = b))) [] := by
  refine Con.of T_ok Tryz.func162 rfl (by kernel_rfl) (by kernel_rfl) (aw_of T_ok (by kernel_rfl) ?_)
  conv => whnf
  split <;> rename_i h <;> conv => whnf
  · refine retB ?_
    symm
    rw [decide_eq_false_iff_not]
    rintro rfl
    simp at h
  · have hl : a.length = b.length := by simp at h; omega
    refine AW.loop (fun k : Nat => k ≤ a.length ∧ ∀ j, j < k → a[j]? = b[j]?) (fun k => [(0, .lf (.pv (encSteps a))), (1, .lf (.pv (encSteps b))), (12, Go.Rx.I a.length), (13, Go.Rx.I k)]) (fun _ => []) (fun k => a.length - k) [] ?_ ?_
    · exact ⟨0, ⟨Nat.zero_le _, fun j hj => absurd hj (Nat.not_lt_zero _)⟩, ⟨rfl, rfl, congrArg (fun n : Nat => Go.Rx.I (n : Int)) (List.length_map ..), rfl, trivial⟩, ⟨[], rfl⟩, rfl, rfl⟩
    · rintro k ⟨hk, hpre⟩
      refine aw_of T_ok (by kernel_rfl) ?_
      conv => whnf
      split <;> rename_i hlt <;> conv => whnf
      · have hka : k < a.length := by simp at hlt; omega
        have hkb : k < b.length := by omega
        refine AW.draw T_ok rfl (seqPl 0 9) (by kernel_rfl) (by kernel_rfl) ?_
        conv => whnf
        refine ⟨by omega, (a[k]).enc, by simp [hka], ?_⟩
        conv => whnf
        refine ⟨by omega, (b[k]).enc, by simp [hkb], ?_⟩
        conv => whnf
        split <;> rename_i hne <;> conv => whnf
        · refine retB ?_
          symm
          rw [decide_eq_false_iff_not]
          rintro rfl
          have h2 : (!(decide (a[k] = a[k]))) = true := by rw [← stepEq]; exact hne
          simp at h2
        · have he : a[k] = b[k] := by
            have h2 : (!(decide (a[k] = b[k]))) = false := by rw [← stepEq]; exact hne
            simpa using h2
          refine ⟨k + 1, ⟨⟨by omega, fun j hj => ?_⟩, by omega⟩, ⟨rfl, rfl, rfl, congrArg Go.Rx.I (wrapI (by omega)), trivial⟩, ⟨[], rfl⟩, rfl, rfl⟩
          by_cases e : j = k
          · subst e; rw [List.getElem?_eq_getElem hka, List.getElem?_eq_getElem hkb, he]
          · exact hpre j (by omega)
      · refine retB ?_
        symm
        rw [decide_eq_true_eq]
        have hka : k = a.length := by simp at hlt; omega
        apply List.ext_getElem?
        intro j
        rcases Nat.lt_or_ge j k with hj | hj
        · exact hpre j hj
        · rw [List.getElem?_eq_none (by omega), List.getElem?_eq_none (by omega)]

theorem eqSaga_con (a b : Saga) (ha : a.steps.length * 80 ≤ 140737488351232) : Con P 37 [encSaga a, encSaga b] (Bl (decide (a = b))) [] := by
  refine Con.of T_ok Tryz.func37 rfl (by kernel_rfl) (by kernel_rfl) (aw_of T_ok (by kernel_rfl) ?_)
  conv => whnf
  repeat' first | refine finB ?_ | (refine callS (eqSteps_con _ _ ha) rfl ?_; conv => whnf) | (split <;> conv => whnf)
  all_goals (refine ⟨?_⟩; rw [sagaEq]; simp [*])
theorem eqRec_con (a b : Rec) (ha : a.steps.length * 80 ≤ 140737488351232) : Con P 78 [encRec a, encRec b] (Bl (decide (a = b))) [] := by
  refine Con.of T_ok Tryz.func78 rfl (by kernel_rfl) (by kernel_rfl) (aw_of T_ok (by kernel_rfl) ?_)
  conv => whnf
  repeat' first | refine finB ?_ | (refine callS (eqSteps_con _ _ ha) rfl ?_; conv => whnf) | (split <;> conv => whnf)
  all_goals (refine ⟨?_⟩; rw [recEq]; simp [*])
theorem same_con (a b : Rec) (ha : a.steps.length * 80 ≤ 140737488351232) : Con P 129 [encRec a, encRec b] (Bl (decide (a = b))) [] := by
  refine Con.of T_ok Tryz.func129 rfl (by kernel_rfl) (by kernel_rfl) (aw_of T_ok (by kernel_rfl) ?_)
  conv => whnf
  repeat' first | refine finB ?_ | (refine callS (eqSlices_con _ _ ha) rfl ?_; conv => whnf) | (split <;> conv => whnf)
  all_goals (refine ⟨?_⟩; rw [recEq]; simp [*])
theorem copySaga_con (s : Saga) (hl : s.steps.length * 80 ≤ 140737488351232) : Con P 118 [encSaga s] (encSaga s) [] := by
  refine Con.of T_ok Tryz.func118 rfl (by kernel_rfl) (by kernel_rfl) (aw_of T_ok (by kernel_rfl) ?_)
  conv => whnf
  refine callU (copySteps_con _ hl) (fun _ => rfl) ?_
  conv => whnf
  exact finA ⟨rfl⟩
theorem begin_con (s : Saga) : Con P 154 [encSaga s] (encRec ⟨1, s.id, 0, s.key, s.body, s.steps⟩) [] := by
  refine Con.of T_ok Tryz.func154 rfl (by kernel_rfl) (by kernel_rfl) (aw_of T_ok (by kernel_rfl) ?_)
  conv => whnf
  exact finA ⟨rfl⟩
theorem bare_con (r : Rec) : Con P 130 [encRec r] (encRec ⟨r.kind, r.id, r.n, ⟨#[]⟩, ⟨#[]⟩, []⟩) [] := by
  refine Con.of T_ok Tryz.func130 rfl (by kernel_rfl) (by kernel_rfl) (aw_of T_ok (by kernel_rfl) ?_)
  conv => whnf
  refine ⟨[encRec ⟨r.kind, r.id, r.n, ⟨#[]⟩, ⟨#[]⟩, []⟩], ⟨.inr (.inr ⟨_, _, rfl, rfl, wkE _, wkE _, wkE _, wkE _, wkE _, wkN 6, trivial⟩), trivial⟩, rfl⟩
theorem most_con (s : Saga) (h : -9223372036854775808 ≤ s.done + 1 ∧ s.done + 1 ≤ 9223372036854775807) : Con P 155 [encSaga s] (Go.Rx.I (mostI s)) [] := by
  refine Con.of T_ok Tryz.func155 rfl (by kernel_rfl) (by kernel_rfl) (aw_of T_ok (by kernel_rfl) ?_)
  conv => whnf
  repeat' first | refine finI ?_ | (split <;> conv => whnf)
  all_goals (refine ⟨?_⟩; simp [mostI, wrapI h, *])
theorem ended_con (s : Saga) (st : Int) : Con P 156 [encSaga s, Go.Rx.I st] (Bl (endsB s st)) [] := by
  refine Con.of T_ok Tryz.func156 rfl (by kernel_rfl) (by kernel_rfl) (aw_of T_ok (by kernel_rfl) ?_)
  conv => whnf
  repeat' first | refine finB ?_ | (split <;> conv => whnf)
  all_goals (refine ⟨?_⟩; simp_all [endsB])
theorem ends_con (s : Saga) (st : Int) (h : 1 ≤ st ∧ st ≤ 3) : Con P 113 [encSaga s, Go.Rx.I st] (Bl (endsB s st)) [] := by
  refine Con.of T_ok Tryz.func113 rfl (by kernel_rfl) (by kernel_rfl) (aw_of T_ok (by kernel_rfl) ?_)
  conv => whnf
  repeat' first | refine finB ?_ | (split <;> conv => whnf)
  all_goals (refine ⟨?_⟩; try simp_all [endsB])
  all_goals (have e3 : st = 3 := by omega)
  all_goals (subst e3; simp_all)
end Go.Proofs.YtfjllfjmggooeaaGreatDoor.Rx

/- How much the input is: a number, whatever it is. -/
set_option linter.unusedVariables false
set_option linter.unusedSimpArgs false
namespace Go.Rx
/-- A sum that stops where it is great. -/
def capSum : List Int → Int → Int
  | [], n => n
  | x :: l, n => if n < 1048576 then capSum l (IntKind.i64.wrap (n + x)) else n
theorem capSum_go {l : List Int} {k : Nat} {n : Int} (h : k < l.length) (hn : n < 1048576) : capSum (l.drop k) n = capSum (l.drop (k + 1)) (IntKind.i64.wrap (n + l[k])) := by
  rw [List.drop_eq_getElem_cons h, capSum, if_pos hn]
theorem capSum_stop {l : List Int} {n : Int} (hn : ¬ n < 1048576) : capSum l n = n := by
  cases l with
  | nil => rfl
  | cons x l => rw [capSum, if_neg hn]
abbrev okS (s : ByteArray) : Prop := s.size ≤ 140737488351232
structure Step.Ok (s : Step) : Prop where
  nm : okS s.nm
  op : okS s.op
  undo : okS s.undo
  who : okS s.who
def Step.w (s : Step) : Int := IntKind.i64.wrap (IntKind.i64.wrap (IntKind.i64.wrap ((s.nm.size : Int) + s.op.size) + s.undo.size) + s.who.size) / 8
def stepsW (l : List Step) : Int := capSum (l.map Step.w) l.length
def sumW (a b : ByteArray) : Int := IntKind.i64.wrap ((a.size : Int) + b.size) / 64
theorem Step.sum_eq {s : Step} (h : s.Ok) : IntKind.i64.wrap (IntKind.i64.wrap (IntKind.i64.wrap ((s.nm.size : Int) + s.op.size) + s.undo.size) + s.who.size) = s.nm.size + s.op.size + s.undo.size + s.who.size := by
  have := h.nm; have := h.op; have := h.undo; have := h.who
  simp only [okS] at *
  rw [wrapI (n := (s.nm.size : Int) + s.op.size) (by omega), wrapI (n := (s.nm.size : Int) + s.op.size + s.undo.size) (by omega), wrapI (by omega)]
abbrev encStrs (l : List ByteArray) : PV := .sl 1 (l.map fun s => [pS s])
abbrev encInts (l : List Int) : PV := .sl 1 (l.map fun n => [pI n])
abbrev encSagas (l : List Saga) : PV := .sl 9 (l.map Saga.enc)
abbrev encRecs (l : List Rec) : PV := .sl 6 (l.map Rec.enc)
def textsW (l : List ByteArray) : Int := capSum (l.map fun s => (s.size : Int)) l.length
def recW (r : Rec) : Int := IntKind.i64.wrap (IntKind.i64.wrap (1 + sumW r.key r.body) + stepsW r.steps)
def sagaW (s : Saga) : Int := IntKind.i64.wrap (IntKind.i64.wrap (1 + sumW s.key s.body) + stepsW s.steps)
structure StepsOk (l : List Step) : Prop where
  len : l.length * 80 ≤ 140737488351232
  each : ∀ x ∈ l, x.Ok
structure Rec.Ok (r : Rec) : Prop where
  key : okS r.key
  body : okS r.body
  steps : StepsOk r.steps
structure Saga.Ok (s : Saga) : Prop where
  key : okS s.key
  body : okS s.body
  steps : StepsOk s.steps
def heavy2B (S : List ByteArray) (N : List Int) : Bool := decide (7000 < IntKind.i64.wrap (textsW S + (N.map fun n => [pI n]).length))
def heavy11B (R : List Rec) (S : List ByteArray) (N : List Int) : Bool := decide (400 < capSum (R.map recW) R.length) || heavy2B S N
end Go.Rx
namespace Go.Proofs.YtfjllfjmggooeaaGreatDoor.Rx
open Go.Rx Go.Proofs

theorem texts_con (l : List ByteArray) (hl : l.length * 16 ≤ 140737488351232) : Con P 125 [.lf (.pv (encStrs l))] (I (textsW l)) [] := by
  refine Con.of T_ok Tryz.func125 rfl (by kernel_rfl) (by kernel_rfl) (aw_of T_ok (by kernel_rfl) ?_)
  conv => whnf
  refine AW.loop (fun p : Nat × Int => p.1 ≤ l.length ∧ capSum ((l.map fun s => (s.size : Int)).drop p.1) p.2 = textsW l) (fun p => [(0, .lf (.pv (encStrs l))), (3, Go.Rx.I p.2), (4, Go.Rx.I p.1)]) (fun _ => []) (fun p => l.length - p.1) [] ?_ ?_
  · exact ⟨(0, l.length), ⟨Nat.zero_le _, rfl⟩, ⟨rfl, congrArg (fun n : Nat => Go.Rx.I (n : Int)) (List.length_map ..), rfl, trivial⟩, ⟨[], rfl⟩, rfl, rfl⟩
  · rintro ⟨k, n⟩ ⟨hk, hsum⟩
    refine aw_of T_ok (by kernel_rfl) ?_
    conv => whnf
    split <;> rename_i hlt <;> conv => whnf
    · have hkl : k < l.length := by simp at hlt; omega
      split <;> rename_i hn <;> conv => whnf
      · refine ⟨by omega, [pS l[k]], by simp [hkl], ?_⟩
        conv => whnf
        have hn' : n < 1048576 := of_decide_eq_true hn
        refine ⟨(k + 1, IntKind.i64.wrap (n + l[k].size)), ⟨⟨by show k + 1 ≤ _; omega, ?_⟩, by show _ - (k + 1) < _; omega⟩, ⟨rfl, rfl, congrArg Go.Rx.I (wrapI (by omega)), trivial⟩, ⟨[], rfl⟩, rfl, rfl⟩
        rw [← hsum]
        have h3 := capSum_go (l := l.map fun s => (s.size : Int)) (k := k) (by simpa using hkl) hn'
        rw [List.getElem_map] at h3
        exact h3.symm
      · refine finI ⟨?_⟩
        rw [← hsum, capSum_stop (of_decide_eq_false hn)]
    · refine finI ⟨?_⟩
      have hkl : k = l.length := by simp at hlt; omega
      rw [← hsum, hkl, List.drop_of_length_le (by simp)]
      rfl

theorem stepsWeight_con (l : List Step) (hl : StepsOk l) : Con P 73 [.lf (.pv (encSteps l))] (I (stepsW l)) [] := by
  refine Con.of T_ok Tryz.func73 rfl (by kernel_rfl) (by kernel_rfl) (aw_of T_ok (by kernel_rfl) ?_)
  conv => whnf
  have hlen := hl.len
  refine AW.loop (fun p : Nat × Int => p.1 ≤ l.length ∧ capSum ((l.map Step.w).drop p.1) p.2 = stepsW l) (fun p => [(0, .lf (.pv (encSteps l))), (3, Go.Rx.I p.2), (4, Go.Rx.I p.1)]) (fun _ => []) (fun p => l.length - p.1) [] ?_ ?_
  · exact ⟨(0, l.length), ⟨Nat.zero_le _, rfl⟩, ⟨rfl, congrArg (fun n : Nat => Go.Rx.I (n : Int)) (List.length_map ..), rfl, trivial⟩, ⟨[], rfl⟩, rfl, rfl⟩
  · rintro ⟨k, n⟩ ⟨hk, hsum⟩
    refine aw_of T_ok (by kernel_rfl) ?_
    conv => whnf
    split <;> rename_i hlt <;> conv => whnf
    · have hkl : k < l.length := by simp at hlt; omega
      have hok := hl.each _ (List.getElem_mem hkl)
      split <;> rename_i hn <;> conv => whnf
      · have hn' : n < 1048576 := of_decide_eq_true hn
        refine AW.draw T_ok rfl (seqPl 0 31) (by kernel_rfl) (by kernel_rfl) ?_
        conv => whnf
        refine ⟨by omega, (l[k]).enc, by simp [hkl], ?_⟩
        conv => whnf
        refine ⟨by omega, (l[k]).enc, by simp [hkl], ?_⟩
        conv => whnf
        refine ⟨by omega, (l[k]).enc, by simp [hkl], ?_⟩
        conv => whnf
        refine ⟨by omega, (l[k]).enc, by simp [hkl], ?_⟩
        conv => whnf
        have h4 := Step.sum_eq hok
        have h5 : (l[k].nm.size : Int) + l[k].op.size + l[k].undo.size + l[k].who.size ≤ 9223372036854775807 := by
          have := hok.nm; have := hok.op; have := hok.undo; have := hok.who
          simp only [okS] at *
          omega
        refine ⟨by show 0 ≤ IntKind.i64.wrap (IntKind.i64.wrap (IntKind.i64.wrap ((l[k].nm.size : Int) + l[k].op.size) + l[k].undo.size) + l[k].who.size); rw [h4]; omega, by decide, by show IntKind.i64.wrap (IntKind.i64.wrap (IntKind.i64.wrap ((l[k].nm.size : Int) + l[k].op.size) + l[k].undo.size) + l[k].who.size) ≤ _; rw [h4]; exact h5, ?_⟩
        conv => whnf
        refine ⟨(k + 1, IntKind.i64.wrap (n + l[k].w)), ⟨⟨by show k + 1 ≤ _; omega, ?_⟩, by show _ - (k + 1) < _; omega⟩, ⟨rfl, rfl, congrArg Go.Rx.I (wrapI (by omega)), trivial⟩, ⟨[], rfl⟩, rfl, rfl⟩
        rw [← hsum]
        have h3 := capSum_go (l := l.map Step.w) (k := k) (by simpa using hkl) hn'
        rw [List.getElem_map] at h3
        exact h3.symm
      · refine finI ⟨?_⟩
        rw [← hsum, capSum_stop (of_decide_eq_false hn)]
    · refine finI ⟨?_⟩
      have hkl : k = l.length := by simp at hlt; omega
      rw [← hsum, hkl, List.drop_of_length_le (by simp)]
      rfl
theorem recW_con (r : Rec) (h : r.Ok) : Con P 41 [encRec r] (I (recW r)) [] := by
  refine Con.of T_ok Tryz.func41 rfl (by kernel_rfl) (by kernel_rfl) (aw_of T_ok (by kernel_rfl) ?_)
  conv => whnf
  refine AW.draw T_ok rfl (seqPl 0 14) (by kernel_rfl) (by kernel_rfl) ?_
  conv => whnf
  have h1 := h.key
  have h2 := h.body
  have h3 : IntKind.i64.wrap ((r.key.size : Int) + r.body.size) = r.key.size + r.body.size := wrapI (by simp only [okS] at *; omega)
  refine ⟨by show 0 ≤ IntKind.i64.wrap ((r.key.size : Int) + r.body.size); rw [h3]; omega, by decide, by show IntKind.i64.wrap ((r.key.size : Int) + r.body.size) ≤ _; rw [h3]; simp only [okS] at *; omega, ?_⟩
  conv => whnf
  refine callS (stepsWeight_con _ h.steps) rfl ?_
  conv => whnf
  exact finI ⟨rfl⟩
theorem sagaW_con (s : Saga) (h : s.Ok) : Con P 54 [encSaga s] (I (sagaW s)) [] := by
  refine Con.of T_ok Tryz.func54 rfl (by kernel_rfl) (by kernel_rfl) (aw_of T_ok (by kernel_rfl) ?_)
  conv => whnf
  refine AW.draw T_ok rfl (seqPl 0 14) (by kernel_rfl) (by kernel_rfl) ?_
  conv => whnf
  have h1 := h.key
  have h2 := h.body
  have h3 : IntKind.i64.wrap ((s.key.size : Int) + s.body.size) = s.key.size + s.body.size := wrapI (by simp only [okS] at *; omega)
  refine ⟨by show 0 ≤ IntKind.i64.wrap ((s.key.size : Int) + s.body.size); rw [h3]; omega, by decide, by show IntKind.i64.wrap ((s.key.size : Int) + s.body.size) ≤ _; rw [h3]; simp only [okS] at *; omega, ?_⟩
  conv => whnf
  refine callS (stepsWeight_con _ h.steps) rfl ?_
  conv => whnf
  exact finI ⟨rfl⟩
theorem heavy2V_con (S : List ByteArray) (N : List Int) (hS : S.length * 16 ≤ 140737488351232) : Con P 92 [.agg [.pv (encStrs S), .pv (encInts N)]] (Bl (heavy2B S N)) [] := by
  refine Con.of T_ok Tryz.func92 rfl (by kernel_rfl) (by kernel_rfl) (aw_of T_ok (by kernel_rfl) ?_)
  conv => whnf
  refine AW.draw T_ok rfl (listPl [0, 1, 3, 4, 5, 2, 6, 7, 8]) (by kernel_rfl) (by kernel_rfl) ?_
  conv => whnf
  refine callS (texts_con _ hS) rfl ?_
  conv => whnf
  exact finB ⟨rfl⟩
theorem heavy11V_con (R : List Rec) (S : List ByteArray) (N : List Int) (hR : R.length * 80 ≤ 140737488351232) (hRs : ∀ r ∈ R, r.Ok) (hS : S.length * 16 ≤ 140737488351232) : Con P 55 [.agg [.pv (encRecs R), .pv (encStrs S), .pv (encInts N)]] (Bl (heavy11B R S N)) [] := by
  have hb2 := heavy2V_con S N hS
  have hB : heavy11B R S N = (decide (400 < capSum (R.map recW) R.length) || heavy2B S N) := rfl
  rw [hB]
  generalize heavy2B S N = b2 at hb2
  refine Con.of T_ok Tryz.func55 rfl (by kernel_rfl) (by kernel_rfl) (aw_of T_ok (by kernel_rfl) ?_)
  conv => whnf
  refine AW.loop (fun p : Nat × Int => p.1 ≤ R.length ∧ capSum ((R.map recW).drop p.1) p.2 = capSum (R.map recW) R.length) (fun p => [(1, .lf (.ptr 0 0)), (3, Go.Rx.I p.2), (4, Go.Rx.I p.1)]) (fun _ => [.var [.pv (encRecs R), .pv (encStrs S), .pv (encInts N)]]) (fun p => R.length - p.1) [] ?_ ?_
  · exact ⟨(0, R.length), ⟨Nat.zero_le _, rfl⟩, ⟨rfl, congrArg (fun n : Nat => Go.Rx.I (n : Int)) (List.length_map ..), rfl, trivial⟩, ⟨[], rfl⟩, rfl, rfl⟩
  · rintro ⟨k, n⟩ ⟨hk, hsum⟩
    refine aw_of T_ok (by kernel_rfl) ?_
    conv => whnf
    have fin : ∀ m, m = capSum (R.map recW) R.length → (decide (400 < m) || b2) = (decide (400 < capSum (R.map recW) R.length) || b2) := fun m h => by rw [h]
    split <;> rename_i hlt <;> conv => whnf
    · have hkl : k < R.length := by simp at hlt; omega
      split <;> rename_i hn <;> conv => whnf
      · refine ⟨by omega, (R[k]).enc, by simp [hkl], ?_⟩
        conv => whnf
        refine callS (recW_con _ (hRs _ (List.getElem_mem hkl))) rfl ?_
        conv => whnf
        have hn' : n < 1048576 := of_decide_eq_true hn
        refine ⟨(k + 1, IntKind.i64.wrap (n + recW R[k])), ⟨⟨by show k + 1 ≤ _; omega, ?_⟩, by show _ - (k + 1) < _; omega⟩, ⟨rfl, rfl, congrArg Go.Rx.I (wrapI (by omega)), trivial⟩, ⟨[], rfl⟩, rfl, rfl⟩
        rw [← hsum]
        have h3 := capSum_go (l := R.map recW) (k := k) (by simpa using hkl) hn'
        rw [List.getElem_map] at h3
        exact h3.symm
      · have hm : n = capSum (R.map recW) R.length := by rw [← hsum, capSum_stop (of_decide_eq_false hn)]
        split <;> rename_i h4 <;> conv => whnf
        · refine finB ⟨?_⟩
          rw [← fin n hm, show decide (400 < n) = true from h4]; rfl
        · refine callS hb2 rfl ?_
          conv => whnf
          refine finB ⟨?_⟩
          rw [← fin n hm, show decide (400 < n) = false from h4]; rfl
    · have hkl : k = R.length := by simp at hlt; omega
      have hm : n = capSum (R.map recW) R.length := by rw [← hsum, hkl, List.drop_of_length_le (by simp)]; rfl
      split <;> rename_i h4 <;> conv => whnf
      · refine finB ⟨?_⟩
        rw [← fin n hm, show decide (400 < n) = true from h4]; rfl
      · refine callS hb2 rfl ?_
        conv => whnf
        refine finB ⟨?_⟩
        rw [← fin n hm, show decide (400 < n) = false from h4]; rfl
end Go.Proofs.YtfjllfjmggooeaaGreatDoor.Rx

/- Bytes, short texts, numbers, services and their ops. -/
set_option linter.unusedVariables false
set_option linter.unusedSimpArgs false
namespace Go.Rx
abbrev U8 (n : Int) : AV := sc (.int .u8 n)
abbrev pU8 (n : Int) : PV := .sc (.int .u8 n)
def letN (n : Int) : Bool := (decide (97 ≤ n) && decide (n ≤ 122)) || (decide (65 ≤ n) && decide (n ≤ 90)) || (n == 95)
def digN (n : Int) : Bool := decide (48 ≤ n) && decide (n ≤ 57)
/-- Is a byte one that a text may have? Are all? -/
def okB (c : UInt8) : Bool := !(decide ((c.toNat : Int) < 32) || decide (126 < (c.toNat : Int)))
def plainB (s : ByteArray) : Bool := s.data.toList.all okB
def shortB (s : ByteArray) : Bool := plainB s && decide (s.size ≤ 40)
theorem atB {s : ByteArray} {k : Nat} (h : k < s.size) : s[k]? = some s[k] := by simp [h]
theorem plain_go {s : ByteArray} {k : Nat} (h : k < s.size) : (s.data.toList.drop k).all okB = (okB s[k] && (s.data.toList.drop (k + 1)).all okB) := by
  rw [List.drop_eq_getElem_cons (by simpa using h), List.all_cons]
  rfl
theorem plain_end {s : ByteArray} {k : Nat} (h : s.size ≤ k) : (s.data.toList.drop k).all okB = true := by
  rw [List.drop_of_length_le (by simpa using h)]; rfl
end Go.Rx
namespace Go.Proofs.YtfjllfjmggooeaaGreatDoor.Rx
open Go.Rx Go.Proofs

theorem letter2_con (n : Int) : Con P 178 [U8 n] (Bl (letN n)) [] := by
  refine Con.of T_ok Tryz.func178 rfl (by kernel_rfl) (by kernel_rfl) (aw_of T_ok (by kernel_rfl) ?_)
  conv => whnf
  repeat' first | refine finB ?_ | (split <;> conv => whnf)
  all_goals (refine ⟨?_⟩; simp_all [letN] <;> omega)
theorem digit2_con (n : Int) : Con P 211 [U8 n] (Bl (digN n)) [] := by
  refine Con.of T_ok Tryz.func211 rfl (by kernel_rfl) (by kernel_rfl) (aw_of T_ok (by kernel_rfl) ?_)
  conv => whnf
  repeat' first | refine finB ?_ | (split <;> conv => whnf)
  all_goals (refine ⟨?_⟩; simp_all [digN] <;> omega)
theorem letter_con (n : Int) : Con P 192 [U8 n] (Bl (letN n)) [] := by
  refine Con.of T_ok Tryz.func192 rfl (by kernel_rfl) (by kernel_rfl) (aw_of T_ok (by kernel_rfl) ?_)
  conv => whnf
  repeat' first | refine finB ?_ | (split <;> conv => whnf)
  all_goals (refine ⟨?_⟩; simp_all [letN] <;> omega)
theorem digit_con (n : Int) : Con P 218 [U8 n] (Bl (digN n)) [] := by
  refine Con.of T_ok Tryz.func218 rfl (by kernel_rfl) (by kernel_rfl) (aw_of T_ok (by kernel_rfl) ?_)
  conv => whnf
  repeat' first | refine finB ?_ | (split <;> conv => whnf)
  all_goals (refine ⟨?_⟩; simp_all [digN] <;> omega)
theorem digit1_con (n : Int) : Con P 226 [U8 n] (Bl (digN n)) [] := by
  refine Con.of T_ok Tryz.func226 rfl (by kernel_rfl) (by kernel_rfl) (aw_of T_ok (by kernel_rfl) ?_)
  conv => whnf
  repeat' first | refine finB ?_ | (split <;> conv => whnf)
  all_goals (refine ⟨?_⟩; simp_all [digN] <;> omega)
theorem isNum_con (n : Int) : Con P 168 [I n] (Bl (decide (-1073741824 ≤ n) && decide (n ≤ 1073741824))) [] := by
  refine Con.of T_ok Tryz.func168 rfl (by kernel_rfl) (by kernel_rfl) (aw_of T_ok (by kernel_rfl) ?_)
  conv => whnf
  repeat' first | refine finB ?_ | (split <;> conv => whnf)
  all_goals (refine ⟨?_⟩; simp_all <;> omega)
theorem isService_con (n : Int) : Con P 107 [I n] (Bl (decide (1 ≤ n) && decide (n ≤ 4))) [] := by
  refine Con.of T_ok Tryz.func107 rfl (by kernel_rfl) (by kernel_rfl) (aw_of T_ok (by kernel_rfl) ?_)
  conv => whnf
  repeat' first | refine finB ?_ | (split <;> conv => whnf)
  all_goals (refine ⟨?_⟩; simp_all <;> omega)
theorem string_con (s : ByteArray) (hs : okS s) : Con P 149 [Sx s] (Bl (plainB s && decide (s.size ≤ 3000))) [] := by
  simp only [okS] at hs
  refine Con.of T_ok Tryz.func149 rfl (by kernel_rfl) (by kernel_rfl) (aw_of T_ok (by kernel_rfl) ?_)
  conv => whnf
  refine AW.loop (fun k : Nat => k ≤ s.size ∧ k ≤ 3001 ∧ plainB s = (s.data.toList.drop k).all okB) (fun k => [(0, Sx s), (3, Go.Rx.I k)]) (fun _ => []) (fun k => s.size - k) [] ?_ ?_
  · exact ⟨0, ⟨Nat.zero_le _, by omega, rfl⟩, ⟨rfl, rfl, trivial⟩, ⟨[], rfl⟩, rfl, rfl⟩
  · rintro k ⟨hk, hk2, hpre⟩
    refine aw_of T_ok (by kernel_rfl) ?_
    conv => whnf
    split <;> rename_i hlt <;> conv => whnf
    · have hks : k < s.size := by simpa using hlt
      split <;> rename_i h3 <;> conv => whnf
      · have h3' : k ≤ 3000 := by simp at h3; omega
        refine ⟨by omega, s[k], atB hks, ?_⟩
        conv => whnf
        rw [plain_go hks] at hpre
        split <;> rename_i h4 <;> conv => whnf
        · refine finB ⟨?_⟩
          rw [hpre, okB, show decide ((s[k].toNat : Int) < 32) = true from h4]; rfl
        · refine ⟨by omega, s[k], atB hks, ?_⟩
          conv => whnf
          split <;> rename_i h5 <;> conv => whnf
          · refine finB ⟨?_⟩
            rw [hpre, okB, show decide (126 < (s[k].toNat : Int)) = true from h5, Bool.or_true]; rfl
          · refine ⟨k + 1, ⟨⟨by omega, by omega, ?_⟩, by omega⟩, ⟨rfl, congrArg Go.Rx.I (wrapI (by omega)), trivial⟩, ⟨[], rfl⟩, rfl, rfl⟩
            rw [hpre, okB, show decide ((s[k].toNat : Int) < 32) = false from h4, show decide (126 < (s[k].toNat : Int)) = false from h5]; rfl
      · refine finB ⟨?_⟩
        have h3' : ¬ k ≤ 3000 := by simp at h3; omega
        rw [decide_eq_false (by omega), decide_eq_false (by omega), Bool.and_false]
    · refine finB ⟨?_⟩
      have hks : s.size ≤ k := by simpa using hlt
      rw [hpre, plain_end hks, Bool.true_and]
      exact decide_eq_decide.2 (by omega)
theorem short1_con (s : ByteArray) (hs : okS s) : Con P 116 [Sx s] (Bl (shortB s)) [] := by
  refine Con.of T_ok Tryz.func116 rfl (by kernel_rfl) (by kernel_rfl) (aw_of T_ok (by kernel_rfl) ?_)
  conv => whnf
  refine callS (string_con s hs) rfl ?_
  conv => whnf
  split <;> rename_i h <;> conv => whnf
  · refine finB ⟨?_⟩
    simp only [Bool.and_eq_true, decide_eq_true_eq] at h
    rw [shortB, h.1, Bool.true_and]
    exact decide_eq_decide.2 (by omega)
  · refine finB ⟨?_⟩
    rw [shortB]
    cases hp : plainB s with
    | false => rfl
    | true =>
      rw [hp, Bool.true_and] at h
      simp at h
      simp
      omega
end Go.Proofs.YtfjllfjmggooeaaGreatDoor.Rx

/- Ops and their pairs; is a text, or a step, among others? -/
set_option linter.unusedVariables false
set_option linter.unusedSimpArgs false
namespace Go.Rx
def idxL {α : Type} (p : α → Bool) : List α → Nat → Int
  | [], _ => -1
  | y :: l, k => if p y then k else idxL p l (k + 1)
theorem idx_go {α : Type} {p : α → Bool} {l : List α} {k : Nat} (h : k < l.length) : idxL p (l.drop k) k = if p l[k] then (k : Int) else idxL p (l.drop (k + 1)) (k + 1) := by
  rw [List.drop_eq_getElem_cons h, idxL]
theorem idx_end {α : Type} {p : α → Bool} {l : List α} {k : Nat} (h : l.length ≤ k) : idxL p (l.drop k) k = -1 := by
  rw [List.drop_of_length_le h, idxL]
theorem idx_any {α : Type} {p : α → Bool} : ∀ (l : List α) (k : Nat), decide (0 ≤ idxL p l k) = l.any p
  | [], _ => rfl
  | y :: l, k => by
    rw [idxL, List.any_cons]
    cases hp : p y with
    | true => simp
    | false => simpa using idx_any l (k + 1)
abbrev encStep (s : Step) : AV := .agg [.pv (pS s.nm), .pv (pI s.service), .pv (pS s.op), .pv (pS s.undo), .pv (pS s.who), .pv (pI s.n)]
def opsS (n : Int) : List ByteArray :=
  if n = 1 then [⟨#[99, 114, 101, 100, 105, 116]⟩, ⟨#[100, 101, 98, 105, 116]⟩] else if n = 2 then [⟨#[112, 117, 116]⟩, ⟨#[116, 97, 107, 101]⟩]
  else if n = 3 then [⟨#[98, 111, 111, 107]⟩, ⟨#[99, 97, 110, 99, 101, 108]⟩] else if n = 4 then [⟨#[115, 101, 110, 100]⟩, ⟨#[114, 101, 99, 97, 108, 108]⟩] else []
def pairB (n : Int) (d u : ByteArray) : Bool := (opsS n).any (d == ·) && (opsS n).any (u == ·) && !(d == u)
end Go.Rx
namespace Go.Proofs.YtfjllfjmggooeaaGreatDoor.Rx
open Go.Rx Go.Proofs

theorem index_con (l : List ByteArray) (x : ByteArray) (hl : l.length * 16 ≤ 140737488351232) : Con P 206 [.lf (.pv (encStrs l)), Sx x] (I (idxL (x == ·) l 0)) [] := by
  refine Con.of T_ok Tryz.func206 rfl (by kernel_rfl) (by kernel_rfl) (aw_of T_ok (by kernel_rfl) ?_)
  conv => whnf
  refine AW.loop (fun k : Nat => k ≤ l.length ∧ idxL (x == ·) (l.drop k) k = idxL (x == ·) l 0) (fun k => [(0, .lf (.pv (encStrs l))), (1, Sx x), (7, Go.Rx.I l.length), (8, Go.Rx.I k)]) (fun _ => []) (fun k => l.length - k) [] ?_ ?_
  · exact ⟨0, ⟨Nat.zero_le _, rfl⟩, ⟨rfl, rfl, congrArg (fun n : Nat => Go.Rx.I (n : Int)) (List.length_map ..), rfl, trivial⟩, ⟨[], rfl⟩, rfl, rfl⟩
  · rintro k ⟨hk, hpre⟩
    refine aw_of T_ok (by kernel_rfl) ?_
    conv => whnf
    split <;> rename_i hlt <;> conv => whnf
    · have hkl : k < l.length := by simpa using hlt
      rw [idx_go hkl] at hpre
      refine ⟨by omega, [pS l[k]], by simp [hkl], ?_⟩
      conv => whnf
      split <;> rename_i he <;> conv => whnf
      · refine finI ⟨?_⟩
        rw [← hpre, if_pos (show (x == l[k]) = true from he)]
      · refine ⟨k + 1, ⟨⟨by omega, ?_⟩, by omega⟩, ⟨rfl, rfl, rfl, congrArg Go.Rx.I (wrapI (by omega)), trivial⟩, ⟨[], rfl⟩, rfl, rfl⟩
        rw [← hpre, if_neg (by rw [show (x == l[k]) = false from he]; decide)]
    · refine finI ⟨?_⟩
      have hkl : l.length ≤ k := by simpa using hlt
      rw [← hpre, idx_end hkl]
theorem contains_con (l : List ByteArray) (x : ByteArray) (hl : l.length * 16 ≤ 140737488351232) : Con P 195 [.lf (.pv (encStrs l)), Sx x] (Bl (l.any (x == ·))) [] := by
  refine Con.of T_ok Tryz.func195 rfl (by kernel_rfl) (by kernel_rfl) (aw_of T_ok (by kernel_rfl) ?_)
  conv => whnf
  refine callS (index_con l x hl) rfl ?_
  conv => whnf
  exact finB ⟨idx_any l 0⟩
theorem may1_con (s x : Step) : Con P 166 [encStep s, .lf (.ro x.enc)] (Bl (s.nm == x.nm)) [] := by
  refine Con.of T_ok Tryz.func166 rfl (by kernel_rfl) (by kernel_rfl) (aw_of T_ok (by kernel_rfl) ?_)
  conv => whnf
  exact finB ⟨rfl⟩
theorem indexFunc_con (l : List Step) (x : Step) (hl : l.length * 80 ≤ 140737488351232) : Con P 193 [.lf (.pv (encSteps l)), .lf (.fn 166 [x.enc])] (I (idxL (fun s : Step => s.nm == x.nm) l 0)) [] := by
  refine Con.of T_ok Tryz.func193 rfl (by kernel_rfl) (by kernel_rfl) (aw_of T_ok (by kernel_rfl) ?_)
  conv => whnf
  refine AW.loop (fun k : Nat => k ≤ l.length ∧ idxL (fun s : Step => s.nm == x.nm) (l.drop k) k = idxL (fun s : Step => s.nm == x.nm) l 0) (fun k => [(0, .lf (.pv (encSteps l))), (1, .lf (.fn 166 [x.enc])), (7, Go.Rx.I l.length), (8, Go.Rx.I k)]) (fun _ => []) (fun k => l.length - k) [] ?_ ?_
  · exact ⟨0, ⟨Nat.zero_le _, rfl⟩, ⟨rfl, rfl, congrArg (fun n : Nat => Go.Rx.I (n : Int)) (List.length_map ..), rfl, trivial⟩, ⟨[], rfl⟩, rfl, rfl⟩
  · rintro k ⟨hk, hpre⟩
    refine aw_of T_ok (by kernel_rfl) ?_
    conv => whnf
    split <;> rename_i hlt <;> conv => whnf
    · have hkl : k < l.length := by simpa using hlt
      rw [idx_go hkl] at hpre
      refine ⟨by omega, (l[k]).enc, by simp [hkl], ?_⟩
      conv => whnf
      refine callS (may1_con l[k] x) rfl ?_
      conv => whnf
      split <;> rename_i he <;> conv => whnf
      · refine finI ⟨?_⟩
        rw [← hpre, if_pos (show (l[k].nm == x.nm) = true from he)]
      · refine ⟨k + 1, ⟨⟨by omega, ?_⟩, by omega⟩, ⟨rfl, rfl, rfl, congrArg Go.Rx.I (wrapI (by omega)), trivial⟩, ⟨[], rfl⟩, rfl, rfl⟩
        rw [← hpre, if_neg (by rw [show (l[k].nm == x.nm) = false from he]; decide)]
    · refine finI ⟨?_⟩
      have hkl : l.length ≤ k := by simpa using hlt
      rw [← hpre, idx_end hkl]
theorem containsFunc_con (l : List Step) (x : Step) (hl : l.length * 80 ≤ 140737488351232) : Con P 165 [.lf (.pv (encSteps l)), .lf (.fn 166 [x.enc])] (Bl (l.any fun s : Step => s.nm == x.nm)) [] := by
  refine Con.of T_ok Tryz.func165 rfl (by kernel_rfl) (by kernel_rfl) (aw_of T_ok (by kernel_rfl) ?_)
  conv => whnf
  refine callS (indexFunc_con l x hl) rfl ?_
  conv => whnf
  exact finB ⟨idx_any l 0⟩
theorem ops4_con (n : Int) : Con P 115 [I n] (.lf (.pv (encStrs (opsS n)))) [] := by
  refine Con.of T_ok Tryz.func115 rfl (by kernel_rfl) (by kernel_rfl) (aw_of T_ok (by kernel_rfl) ?_)
  conv => whnf
  split <;> rename_i h <;> conv => whnf
  · obtain rfl : n = 1 := by simpa using h
    exact ⟨rfl, finA ⟨rfl⟩⟩
  · split <;> rename_i h2 <;> conv => whnf
    · obtain rfl : n = 2 := by simpa using h2
      exact ⟨rfl, finA ⟨rfl⟩⟩
    · split <;> rename_i h3 <;> conv => whnf
      · obtain rfl : n = 3 := by simpa using h3
        exact ⟨rfl, finA ⟨rfl⟩⟩
      · split <;> rename_i h4 <;> conv => whnf
        · obtain rfl : n = 4 := by simpa using h4
          exact ⟨rfl, finA ⟨rfl⟩⟩
        · have h1 : ¬ n = 1 := by simpa using h
          have h2 : ¬ n = 2 := by simpa using h2
          have h3 : ¬ n = 3 := by simpa using h3
          have h4 : ¬ n = 4 := by simpa using h4
          rw [show opsS n = [] by unfold opsS; rw [if_neg h1, if_neg h2, if_neg h3, if_neg h4]]
          exact ⟨[.lf (.pv (.sl 1 []))], ⟨.inr (.inl ⟨_, _, rfl, rfl, wkN 1⟩), trivial⟩, rfl⟩
theorem ops_con (n : Int) (h : 1 ≤ n ∧ n ≤ 4) : Con P 194 [I n] (.lf (.pv (encStrs (opsS n)))) [] := by
  refine Con.of T_ok Tryz.func194 rfl (by kernel_rfl) (by kernel_rfl) (aw_of T_ok (by kernel_rfl) ?_)
  obtain rfl | rfl | rfl | rfl : n = 1 ∨ n = 2 ∨ n = 3 ∨ n = 4 := by omega
  all_goals conv => whnf
  all_goals (refine ⟨rfl, ?_⟩; conv => whnf)
  all_goals (refine ⟨rfl, ?_⟩; conv => whnf)
  all_goals (refine ⟨rfl, ?_⟩; conv => whnf)
  all_goals (refine ⟨rfl, ?_⟩; conv => whnf)
  all_goals (refine ⟨rfl, by decide, by decide, ?_⟩; conv => whnf)
  all_goals (refine ⟨rfl, rfl, _, rfl, ?_⟩; conv => whnf)
  all_goals exact finA ⟨rfl⟩
theorem ops_len (n : Int) : (opsS n).length * 16 ≤ 140737488351232 := by
  unfold opsS; repeat' split
  all_goals decide
theorem ops_two (n : Int) : (∃ p q, opsS n = [p, q] ∧ (p == q) = false) ∨ opsS n = [] := by
  unfold opsS; repeat' split
  all_goals first | exact .inr rfl | exact .inl ⟨_, _, rfl, by decide⟩
theorem pair_con (n : Int) (d u : ByteArray) (h : 1 ≤ n ∧ n ≤ 4) : Con P 167 [I n, Sx d, Sx u] (Bl (pairB n d u)) [] := by
  refine Con.of T_ok Tryz.func167 rfl (by kernel_rfl) (by kernel_rfl) (aw_of T_ok (by kernel_rfl) ?_)
  conv => whnf
  refine callU (ops_con n h) (fun _ => rfl) ?_
  conv => whnf
  refine callS (contains_con (opsS n) d (ops_len n)) rfl ?_
  conv => whnf
  split <;> rename_i h1 <;> conv => whnf
  · refine callS (contains_con (opsS n) u (ops_len n)) rfl ?_
    conv => whnf
    split <;> rename_i h2 <;> conv => whnf
    · refine finB ⟨?_⟩
      rw [pairB, h1, h2]; rfl
    · refine finB ⟨?_⟩
      rw [pairB, h1, h2]; rfl
  · refine finB ⟨?_⟩
    rw [pairB, h1]; rfl
theorem pair4_con (n : Int) (d u : ByteArray) : Con P 151 [I n, Sx d, Sx u] (Bl (pairB n d u)) [] := by
  refine Con.of T_ok Tryz.func151 rfl (by kernel_rfl) (by kernel_rfl) (aw_of T_ok (by kernel_rfl) ?_)
  conv => whnf
  refine callU (ops4_con n) (fun _ => rfl) ?_
  rcases ops_two n with ⟨p, q, e, hne⟩ | e
  · rw [pairB, e]
    conv => whnf
    refine ⟨by decide, _, rfl, ?_⟩
    conv => whnf
    split <;> rename_i h1 <;> conv => whnf
    · refine ⟨by decide, _, rfl, ?_⟩
      conv => whnf
      split <;> rename_i h2 <;> conv => whnf
      · refine finB ⟨?_⟩
        obtain rfl := eq_of_beq h1
        obtain rfl := eq_of_beq h2
        simp [hne]
      · refine ⟨by decide, _, rfl, ?_⟩
        conv => whnf
        split <;> rename_i h3 <;> conv => whnf
        · obtain rfl := eq_of_beq h1
          rw [show (d == q) = false from hne] at h3
          cases h3
        · refine finB ⟨?_⟩
          obtain rfl := eq_of_beq h1
          by_cases e : u = d
          · subst e; simp
          · simp [show (u == q) = false from h2, show (u == d) = false from beq_eq_false_iff_ne.2 e]
    · refine ⟨by decide, _, rfl, ?_⟩
      conv => whnf
      split <;> rename_i h3 <;> conv => whnf
      · refine ⟨by decide, _, rfl, ?_⟩
        conv => whnf
        refine finB ⟨?_⟩
        obtain rfl := eq_of_beq h3
        by_cases e1 : u = p
        · subst e1; simp [show (d == u) = false from h1]
        · by_cases e2 : u = d
          · subst e2; simp [e1]
          · simp [beq_eq_false_iff_ne.2 e1, beq_eq_false_iff_ne.2 e2]
      · refine finB ⟨?_⟩
        simp [show (d == p) = false from h1, show (d == q) = false from h3]
  · rw [pairB, e]
    conv => whnf
    exact finB ⟨rfl⟩
end Go.Proofs.YtfjllfjmggooeaaGreatDoor.Rx

/- Library functions that write to a strings.Builder, and those that look for a byte or a beginning. -/
set_option linter.unusedVariables false
set_option linter.unusedSimpArgs false
namespace Go.Proofs.YtfjllfjmggooeaaGreatDoor.RxH
open Go.RowKit Go.Proofs
/-! ### json_Plain -/
def badR (n : Nat) : Bool := decide (n < 32) || decide (126 < n)
open Go.Shelf Go.Lib in
theorem plain_bad (w : World) : PredAt Tryz.prog 189 #[] encR badR w := fun W r _ => by
  unfold FnGives
  by_cases h1 : r < 32
  · have HX := Lib.hid (show badR r = true by simp [badR, h1])
    have t1 : decide ((r : Int) < 32) = true := decide_eq_true (by omega)
    clear h1
    go_enter Tryz.func189, Tryz.ntmps189
    go_wp2
    go_ret
    exact ⟨by rw [HX.out]; rfl, 0, rfl⟩
  · have t1 : decide ((r : Int) < 32) = false := decide_eq_false (by omega)
    by_cases h2 : 126 < r
    · have HX := Lib.hid (show badR r = true by simp [badR, h2])
      have t2 : decide (126 < (r : Int)) = true := decide_eq_true (by omega)
      clear h1 h2
      go_enter Tryz.func189, Tryz.ntmps189
      go_wp2
      go_ret
      exact ⟨by rw [HX.out]; rfl, 0, rfl⟩
    · have HX := Lib.hid (show badR r = false by simp [badR, h1, h2])
      have t2 : decide (126 < (r : Int)) = false := decide_eq_false (by omega)
      clear h1 h2
      go_enter Tryz.func189, Tryz.ntmps189
      go_wp2
      go_ret
      exact ⟨by rw [HX.out]; rfl, 0, rfl⟩
def json_Plain.f (a0 : ByteArray) (a1 : Int) : Option Bool := some (decide ((a0.size : Int) ≤ a1) && !decide (0 ≤ Lib.idxFunc badR true a0))
set_option maxHeartbeats 1000000 in
theorem json_Plain.calls (a0 : ByteArray) (a1 : Int) (r : Bool) (w : World) (h : json_Plain.f a0 a1 = some r) :
    Calls Tryz.prog 163 #[.string a0, .int .i64 a1] w fun e w' => e = .returned (.bool r) ∧ Below w.heap.size w w' := by
  have HR := Lib.hid (Option.some.inj h)
  clear h
  have HC := Lib.hid (Tryz.strings_ContainsFunc 189 #[] (enters_of Tryz.func189 (by kernel_rfl) rfl) badR a0 w (plain_bad w))
  by_cases c : (a0.size : Int) ≤ a1
  · have HR2 := Lib.hid (show (!decide (0 ≤ Lib.idxFunc badR true a0)) = r by rw [← HR.out, decide_eq_true c, Bool.true_and])
    have t1 : decide ((a0.size : Int) ≤ a1) = true := decide_eq_true c
    clear c
    go_enter Tryz.func163, Tryz.ntmps163
    go_wp2_with (fail)
    refine HC.out.mono ?_
    rintro e w2 ⟨rfl, hd2⟩
    go_wp2
    go_ret
    exact ⟨by rw [HR2.out]; rfl, hd2⟩
  · have HR2 := Lib.hid (show false = r by rw [← HR.out, decide_eq_false c, Bool.false_and])
    have t1 : decide ((a0.size : Int) ≤ a1) = false := decide_eq_false c
    clear c
    go_enter Tryz.func163, Tryz.ntmps163
    go_wp2
    go_ret
    exact ⟨by rw [HR2.out]; rfl, Below.refl _ _⟩
/-! ### strings_Builder_copyCheck -/
theorem hb_size : (Tryz.prog.info? 243).map (·.size) = some 2 := by kernel_rfl
theorem hb_lies : liesAt Tryz.prog Tryz.prog.depth 243 (2 / Tryz.prog.cellsOf 243) 0 243 1 = true := by kernel_rfl
theorem hb_byte : (Tryz.prog.info? 5).map (fun i => (i.zero, i.size, i.bytes)) = some (some (.int .u8 0), 1, 1) := by kernel_rfl
set_option maxHeartbeats 1000000 in
set_option maxRecDepth 100000 in
theorem hb_copyCheck_used (b : Nat) (w : World) (h0 : w.cell? ⟨b, 0, none⟩ = some (.pointer (some ⟨b, 0, none⟩))) :
    Calls Tryz.prog 214 #[.pointer (some ⟨b, 0, none⟩)] w fun e w' => e = .returned (.tuple #[]) ∧ w' = w := by
  obtain ⟨j, hj, _⟩ := Option.map_eq_some_iff.1 hb_size
  go_enter Tryz.func214, Tryz.ntmps214
  go_wp2
  rw [Lib.run_neq_ptr_same w _ Tryz.underlying241 hj]
  go_wp2
  go_end0
  exact ⟨rfl, rfl⟩
set_option maxHeartbeats 1000000 in
set_option maxRecDepth 100000 in
theorem hb_copyCheck_fresh (b : Nat) (w : World) (h0 : w.cell? ⟨b, 0, none⟩ = some (.pointer none)) (hsh : w.shape? b = some (243, 2)) (hfz : w.frozen? ⟨b, 0, none⟩ = false) :
    Calls Tryz.prog 214 #[.pointer (some ⟨b, 0, none⟩)] w fun e w' => e = .returned (.tuple #[]) ∧ w' = w.setCell ⟨b, 0, none⟩ (.pointer (some ⟨b, 0, none⟩)) := by
  obtain ⟨j, hj, hjs⟩ := Option.map_eq_some_iff.1 hb_size
  go_enter Tryz.func214, Tryz.ntmps214
  go_wp2
  rw [Lib.run_to_unsafe w ⟨b, 0, none⟩ Tryz.underlying241 Tryz.underlying183 hj (by rw [hjs]; decide) hsh (Nat.zero_lt_succ 1)]
  simp only [Result.andThen]
  rw [Oper.upon_value]
  go_wp2
  rw [run_callFunc_extern Tryz.func225 (by kernel_rfl) (by kernel_rfl) (by kernel_rfl) (e := Extern.AbiNoEscape.same) (by kernel_rfl)]
  rw [Lib.run_noEscape]
  simp only [Result.andThen]
  rw [Oper.upon_value]
  go_wp2
  rw [Lib.run_from_unsafe w ⟨b, 0, none⟩ Tryz.underlying183 Tryz.underlying241 hj hsh hb_lies]
  simp only [Result.andThen]
  rw [Oper.upon_value]
  go_wp2
  go_end0
  exact ⟨rfl, rfl⟩
theorem hb_copyCheck (B b : Nat) (bs : List Value) (w : World) (h : Lib.IsBuilder 243 5 B b bs w) :
    Calls Tryz.prog 214 #[.pointer (some ⟨b, 0, none⟩)] w fun e w' => e = .returned (.tuple #[]) ∧ (Lib.BuilderAt 243 5 B b (.pointer (some ⟨b, 0, none⟩)) bs w' ∧ Below B w w') := by
  rcases h with h | h
  · refine (hb_copyCheck_fresh b w h.cell0 h.shape h.frozen0).mono ?_
    rintro e w' ⟨rfl, rfl⟩
    exact ⟨rfl, h.used _, (Below.refl B w).setCell (p := ⟨b, 0, none⟩) h.1 _⟩
  · refine (hb_copyCheck_used b w h.cell0).mono ?_
    rintro e w' ⟨rfl, rfl⟩
    exact ⟨rfl, h, Below.refl B _⟩
/-! ### strings_Builder_WriteByte -/
set_option maxHeartbeats 2000000 in
set_option maxRecDepth 100000 in
theorem hb_writeByte (B b : Nat) (bs : List Value) (c : Int) (w : World) (h : Lib.IsBuilder 243 5 B b bs w) (hlen : bs.length + 1 ≤ 140737488355328) (hBw : B ≤ w.heap.size) :
    Calls Tryz.prog 227 #[.pointer (some ⟨b, 0, none⟩), .int .u8 c] w fun e w' => e = .returned .nilIface ∧ (Lib.BuilderAt 243 5 B b (.pointer (some ⟨b, 0, none⟩)) (bs ++ [.int .u8 c]) w' ∧ Below B w w') := by
  obtain ⟨i0, hi, hz0, hz1, hz2⟩ := info_parts hb_byte
  go_enter Tryz.func227, Tryz.ntmps227
  go_wp2_with (go_at_call 214; refine (hb_copyCheck B b bs _ h).mono ?_)
  rintro e w1 ⟨rfl, h1, hb1⟩
  obtain ⟨hB, v, hbk, hown, hne⟩ := h1
  have c0 : w1.cell? ⟨b, 0, none⟩ = some (.pointer (some ⟨b, 0, none⟩)) := by rw [Lib.cell_of_heap hbk]; rfl
  have c1 : w1.cell? ⟨b, 1, none⟩ = some v := by rw [Lib.cell_of_heap hbk]; rfl
  go_wp2_with (at_builtin; refine wpList_append_own _ rfl _ _ 100 rfl B 5 i0 (.int .u8 0) 1 1 Tryz.underlying100 hi hz0 hz1 hz2 rfl (by decide) _ _ _ rfl (hown.alloc _) ⟨w1.heap.size, 0, none⟩ 1 1 [.int .u8 c] rfl rfl ?c1 ?c2 ?c3 ?c4 ?c5 ?_)
  case c1 =>
    intro j u hj
    match j, hj with
    | 0, hj => simp at hj; subst hj; simp [Addr.add]
  case c2 => intro u hu; simp at hu; subst hu; rfl
  case c3 => unfold maxLen; omega
  case c4 => omega
  case c5 => have := hb1.size; simp; omega
  intro v' w2 hown' hgrow _
  have hlt : b < w1.heap.size := by
    rcases Nat.lt_or_ge b w1.heap.size with h' | h'
    · exact h'
    · simp [Array.getElem?_eq_none h'] at hbk
  have hb2 : w2.heap[b]? = some (.cells #[.pointer (some ⟨b, 0, none⟩), v] 243 (0, 0)) := by
    rw [hgrow.block b (by simp; omega) (fun e => hne e.symm), Lib.alloc_old w1 _ b hlt]
    exact hbk
  have d0 : w2.cell? ⟨b, 0, none⟩ = some (.pointer (some ⟨b, 0, none⟩)) := by rw [Lib.cell_of_heap hb2]; rfl
  have d1 : w2.cell? ⟨b, 1, none⟩ = some v := by rw [Lib.cell_of_heap hb2]; rfl
  have f1 : w2.frozen? ⟨b, 1, none⟩ = false := Lib.frozen_of_heap hb2 1
  obtain ⟨g, cap, rfl⟩ : ∃ g cap, v' = .slice (some ⟨g, 0, none⟩) (bs.length + 1) cap := by
    rcases hown'.2 with ⟨_, h0⟩ | ⟨g, cap, cur, hv, _⟩
    · omega
    · exact ⟨g, cap, hv⟩
  go_wp2
  go_ret
  refine ⟨rfl, ?_, ?_⟩
  · exact Lib.BuilderAt.put (T := 243) (e := 5) hB hb2 (bs' := bs ++ [.int .u8 c]) (by simpa using hown') (by decide)
  · exact ((hb1.alloc (by have := hb1.size; omega) _).grown hgrow (by have := hb1.size; simp; omega) (fun k hk => (hown.lt k hk).1)).setCell (p := ⟨b, 1, none⟩) hB _
/-! ### json_String -/
def strGo : List UInt8 → Nat → List UInt8 → List UInt8 × Nat × Bool
  | [], _, _ => ([], 0, false)
  | [c], i, acc => if c.toNat = 34 then (acc, i + 1, true) else if c.toNat < 32 ∨ 126 < c.toNat then ([], 0, false) else ([], 0, false)
  | c :: d :: t, i, acc =>
    if c.toNat = 34 then (acc, i + 1, true)
    else if c.toNat < 32 ∨ 126 < c.toNat then ([], 0, false)
    else if c.toNat = 92 then (if d.toNat = 34 ∨ d.toNat = 92 then strGo t (i + 2) (acc ++ [d]) else ([], 0, false))
    else strGo (d :: t) (i + 1) (acc ++ [c])
def json_String.f (a0 : ByteArray) : Option (ByteArray × Int × Bool) :=
  if a0.size ≤ 140737488355328 then (let r := strGo (a0.data.toList.drop 1) 1 []; some (⟨r.1.toArray⟩, (r.2.1 : Int), r.2.2)) else none
theorem drop_at (s : ByteArray) (k : Nat) (h : k < s.size) : s.data.toList.drop k = s[k] :: s.data.toList.drop (k + 1) := by
  rw [List.drop_eq_getElem_cons (by simpa using h)]; rfl
theorem drop_end (s : ByteArray) (k : Nat) (h : s.size ≤ k) : s.data.toList.drop k = [] := List.drop_of_length_le (by rw [Array.length_toList]; exact h)
theorem strGo_q {c : UInt8} {t acc : List UInt8} {i : Nat} (h : c.toNat = 34) : strGo (c :: t) i acc = (acc, i + 1, true) := by
  cases t <;> simp [strGo, h]
theorem strGo_bad {c : UInt8} {t acc : List UInt8} {i : Nat} (h : c.toNat < 32 ∨ 126 < c.toNat) : strGo (c :: t) i acc = ([], 0, false) := by
  have h1 : ¬ c.toNat = 34 := by omega
  cases t <;> simp only [strGo, if_neg h1, if_pos h]
theorem strGo_plain {c : UInt8} {t acc : List UInt8} {i : Nat} (h1 : ¬ c.toNat = 34) (h2 : ¬ (c.toNat < 32 ∨ 126 < c.toNat)) (h3 : ¬ c.toNat = 92) : strGo (c :: t) i acc = strGo t (i + 1) (acc ++ [c]) := by
  cases t <;> simp only [strGo, if_neg h1, if_neg h2, if_neg h3]
theorem strGo_esc {c d : UInt8} {t acc : List UInt8} {i : Nat} (h : c.toNat = 92) (h3 : d.toNat = 34 ∨ d.toNat = 92) : strGo (c :: d :: t) i acc = strGo t (i + 2) (acc ++ [d]) := by
  have h1 : ¬ c.toNat = 34 := by omega
  have h2 : ¬ (c.toNat < 32 ∨ 126 < c.toNat) := by omega
  simp only [strGo, if_neg h1, if_neg h2, if_pos h, if_pos h3]
theorem strGo_esc_no {c d : UInt8} {t acc : List UInt8} {i : Nat} (h : c.toNat = 92) (h3 : ¬ (d.toNat = 34 ∨ d.toNat = 92)) : strGo (c :: d :: t) i acc = ([], 0, false) := by
  have h1 : ¬ c.toNat = 34 := by omega
  have h2 : ¬ (c.toNat < 32 ∨ 126 < c.toNat) := by omega
  simp only [strGo, if_neg h1, if_neg h2, if_pos h, if_neg h3]
theorem strGo_esc_end {c : UInt8} {acc : List UInt8} {i : Nat} (h : c.toNat = 92) : strGo [c] i acc = ([], 0, false) := by
  have h1 : ¬ c.toNat = 34 := by omega
  simp only [strGo, if_neg h1, ite_self]
theorem byteCells_snoc' (l : List UInt8) (c : UInt8) : Lib.byteCells l ++ [.int .u8 (c.toNat : Int)] = Lib.byteCells (l ++ [c]) := by simp [Lib.byteCells]
theorem ret3 {a a' : ByteArray} {b b' : Int} {c c' : Bool} (h : (a, b, c) = (a', b', c')) : Ending.returned (.tuple #[.string a, .int .i64 b, .bool c]) = .returned (.tuple #[.string a', .int .i64 b', .bool c']) := by
  injection h with h1 h2; injection h2 with h2 h3; rw [h1, h2, h3]
set_option maxHeartbeats 4000000 in
set_option maxRecDepth 100000 in
theorem json_String.calls (a0 : ByteArray) (r1 : ByteArray) (r2 : Int) (r3 : Bool) (w : World) (h : json_String.f a0 = some (r1, r2, r3)) :
    Calls Tryz.prog 220 #[.string a0] w fun e w' => e = .returned (.tuple #[.string r1, .int .i64 r2, .bool r3]) ∧ Below w.heap.size w w' := by
  unfold json_String.f at h
  split at h
  case isFalse => cases h
  case isTrue hsz =>
  have HR := Lib.hid (Option.some.inj h)
  clear h
  have hb0 := Lib.fresh_isBuilder 243 5 w
  have HB0 := Lib.hid hb0
  clear hb0
  have hBel := Lib.hid ((Below.refl w.heap.size w).alloc (Nat.le_refl _) (.cells #[.pointer none, .slice none 0 0] 243))
  go_enter Tryz.func220, Tryz.ntmps220
  go_wp2_with (fail)
  obtain ⟨g, hg⟩ : ∃ g, g = w.heap.size := ⟨_, rfl⟩
  go_loopw [6, 7] (fun i _ wr => ∃ (k : Nat) (acc : List UInt8), 1 ≤ k ∧ k ≤ a0.size + 1 ∧ acc.length < k ∧ i = .int .i64 k ∧ Lib.IsBuilder 243 5 w.heap.size w.heap.size (Lib.byteCells acc) wr ∧ Below w.heap.size w wr ∧ Hid (strGo (a0.data.toList.drop k) k acc = strGo (a0.data.toList.drop 1) 1 [])) (fun i _ _ => a0.size + 1 - (intOf i).toNat)
  case atStart => exact ⟨1, [], by omega, by omega, by simp, rfl, HB0.out, hBel.out, Lib.hid rfl⟩
  case round =>
    obtain ⟨k, acc, hk1, hk2, hacc, rfl, hB1, hb2, HI⟩ := hrel
    have hz : w.heap.size ≤ wr.heap.size := hb2.size
    by_cases hlt : k < a0.size
    · have HD := Lib.hid (drop_at a0 k hlt)
      have Out := fun (p1 : ByteArray) (p2 : Int) (p3 : Bool) (x : List UInt8 × Nat × Bool) (hx : strGo (a0.data.toList.drop k) k acc = x) (e1 : p1 = ⟨x.1.toArray⟩) (e2 : p2 = (x.2.1 : Int)) (e3 : p3 = x.2.2) =>
        ret3 (show (p1, p2, p3) = (r1, r2, r3) by rw [← HR.out, ← HI.out, hx, e1, e2, e3])
      have Hout := Lib.hid Out
      clear Out
      by_cases c34 : a0[k].toNat = 34
      · have t1 : (((a0[k]).toNat : Int) == 34) = true := beq_iff_eq.2 (by omega)
        have HX := Lib.hid (show strGo (a0.data.toList.drop k) k acc = (acc, k + 1, true) by rw [HD.out]; exact strGo_q c34)
        have HS := Lib.hid (Tryz.Builder_String_any _ _ acc wr hB1 hz)
        clear c34
        go_wp2_with (fail)
        refine HS.out.mono ?_
        rintro e w2 ⟨rfl, hbb⟩
        go_wp2
        go_ret3
        exact ⟨Hout.out _ _ _ _ HX.out rfl rfl rfl, hb2.trans hbb⟩
      · have t1 : (((a0[k]).toNat : Int) == 34) = false := beq_eq_false_iff_ne.2 (by omega)
        by_cases cb : a0[k].toNat < 32 ∨ 126 < a0[k].toNat
        · have HX := Lib.hid (show strGo (a0.data.toList.drop k) k acc = ([], 0, false) by rw [HD.out]; exact strGo_bad cb)
          clear c34
          by_cases c32 : a0[k].toNat < 32
          · have t2 : decide (((a0[k]).toNat : Int) < 32) = true := decide_eq_true (by omega)
            clear cb c32
            go_wp2
            go_ret3
            exact ⟨Hout.out _ _ _ _ HX.out rfl rfl rfl, hb2⟩
          · have t2 : decide (((a0[k]).toNat : Int) < 32) = false := decide_eq_false (by omega)
            have t3 : decide (126 < ((a0[k]).toNat : Int)) = true := decide_eq_true (by omega)
            clear cb c32
            go_wp2
            go_ret3
            exact ⟨Hout.out _ _ _ _ HX.out rfl rfl rfl, hb2⟩
        · have t2 : decide (((a0[k]).toNat : Int) < 32) = false := decide_eq_false (by omega)
          have t3 : decide (126 < ((a0[k]).toNat : Int)) = false := decide_eq_false (by omega)
          by_cases c92 : a0[k].toNat = 92
          · have t4 : (((a0[k]).toNat : Int) == 92) = true := beq_iff_eq.2 (by omega)
            by_cases hl2 : k + 1 < a0.size
            · have HD2 := Lib.hid (drop_at a0 (k + 1) hl2)
              by_cases cd : a0[k + 1].toNat = 34 ∨ a0[k + 1].toNat = 92
              · have HX := Lib.hid (show strGo (a0.data.toList.drop k) k acc = strGo (a0.data.toList.drop (k + 2)) (k + 2) (acc ++ [a0[k + 1]]) by rw [HD.out, HD2.out]; exact strGo_esc c92 cd)
                have HW := Lib.hid (hb_writeByte _ _ (Lib.byteCells acc) (a0[k + 1].toNat : Int) wr hB1 (by rw [Lib.byteCells_length]; omega) hz)
                clear c34 c92 cb
                by_cases cd34 : a0[k + 1].toNat = 34
                · have t5 : (((a0[k + 1]).toNat : Int) != 34) = false := by simp [cd34]
                  clear cd cd34
                  go_wp2_with (fail)
                  refine HW.out.mono ?_
                  rintro e w2 ⟨rfl, hB2, hbb⟩
                  rw [byteCells_snoc'] at hB2
                  go_wp2
                  go_roundw
                  case rel => exact ⟨k + 2, _, by omega, by omega, by simp only [List.length_append, List.length_singleton]; omega, by go_num, .inr hB2, hb2.trans hbb, Lib.hid (HX.out.symm.trans HI.out)⟩
                  case measure => simp [intOf]; omega
                · have t5 : (((a0[k + 1]).toNat : Int) != 34) = true := by rw [bne_iff_ne]; omega
                  have t6 : (((a0[k + 1]).toNat : Int) != 92) = false := by simp [show a0[k + 1].toNat = 92 by omega]
                  clear cd cd34
                  go_wp2_with (fail)
                  refine HW.out.mono ?_
                  rintro e w2 ⟨rfl, hB2, hbb⟩
                  rw [byteCells_snoc'] at hB2
                  go_wp2
                  go_roundw
                  case rel => exact ⟨k + 2, _, by omega, by omega, by simp only [List.length_append, List.length_singleton]; omega, by go_num, .inr hB2, hb2.trans hbb, Lib.hid (HX.out.symm.trans HI.out)⟩
                  case measure => simp [intOf]; omega
              · have HX := Lib.hid (show strGo (a0.data.toList.drop k) k acc = ([], 0, false) by rw [HD.out, HD2.out]; exact strGo_esc_no c92 cd)
                have t5 : (((a0[k + 1]).toNat : Int) != 34) = true := by rw [bne_iff_ne]; omega
                have t6 : (((a0[k + 1]).toNat : Int) != 92) = true := by rw [bne_iff_ne]; omega
                clear c34 c92 cb cd
                go_wp2
                go_ret3
                exact ⟨Hout.out _ _ _ _ HX.out rfl rfl rfl, hb2⟩
            · have HX := Lib.hid (show strGo (a0.data.toList.drop k) k acc = ([], 0, false) by rw [HD.out, drop_end a0 (k + 1) (by omega)]; exact strGo_esc_end c92)
              clear c34 c92 cb
              go_wp2
              go_ret3
              exact ⟨Hout.out _ _ _ _ HX.out rfl rfl rfl, hb2⟩
          · have t4 : (((a0[k]).toNat : Int) == 92) = false := beq_eq_false_iff_ne.2 (by omega)
            have HX := Lib.hid (show strGo (a0.data.toList.drop k) k acc = strGo (a0.data.toList.drop (k + 1)) (k + 1) (acc ++ [a0[k]]) by rw [HD.out]; exact strGo_plain c34 cb c92)
            have HW := Lib.hid (hb_writeByte _ _ (Lib.byteCells acc) (a0[k].toNat : Int) wr hB1 (by rw [Lib.byteCells_length]; omega) hz)
            clear c34 c92 cb
            go_wp2_with (fail)
            refine HW.out.mono ?_
            rintro e w2 ⟨rfl, hB2, hbb⟩
            rw [byteCells_snoc'] at hB2
            go_wp2
            go_roundw
            case rel => exact ⟨k + 1, _, by omega, by omega, by simp only [List.length_append, List.length_singleton]; omega, by go_num, .inr hB2, hb2.trans hbb, Lib.hid (HX.out.symm.trans HI.out)⟩
            case measure => simp [intOf]; omega
    · have HX := Lib.hid (show strGo (a0.data.toList.drop k) k acc = ([], 0, false) by rw [drop_end a0 k (by omega)]; rfl)
      have Hout := Lib.hid (ret3 (show ((⟨#[]⟩ : ByteArray), (0 : Int), false) = (r1, r2, r3) by rw [← HR.out, ← HI.out, HX.out]; rfl))
      go_wp2
      go_ret3
      exact ⟨Hout.out, hb2⟩
end Go.Proofs.YtfjllfjmggooeaaGreatDoor.RxH

/- Texts that are plain, as the program looks at them. -/
set_option linter.unusedVariables false
set_option linter.unusedSimpArgs false
namespace Go.Proofs.YtfjllfjmggooeaaGreatDoor.Rx
open Go.Rx Go.Proofs Go.Proofs.YtfjllfjmggooeaaGreatDoor.RxH

theorem plain_from (s : ByteArray) : ∀ n i, i + n = s.size → decide (0 ≤ Lib.idxFuncFrom badR true s n i) = !((s.data.toList.drop i).all okB)
  | 0, i, h => by rw [plain_end (by omega)]; rfl
  | n + 1, i, h => by
    have hi : i < s.size := by omega
    unfold Lib.idxFuncFrom
    rw [if_pos hi, plain_go hi]
    by_cases ha : (s[i]'hi).toNat < 128
    · rw [decode_ascii s i hi ha]
      have e : badR (s[i]'hi).toNat = !okB (s[i]'hi) := by
        unfold badR okB
        rw [Bool.not_not]
        congr 1
        · exact decide_eq_decide.2 (by omega)
        · exact decide_eq_decide.2 (by omega)
      cases ok : okB (s[i]'hi) with
      | true =>
        rw [if_neg (by rw [e, ok]; decide), Bool.true_and]
        exact plain_from s n (i + 1) (by omega)
      | false =>
        rw [if_pos (by rw [e, ok]; rfl)]
        exact decide_eq_true (by omega)
    · have hd := (decode_high s i hi (by omega)).1
      rw [if_pos (show badR (Utf8.decode s i).1 = true by unfold badR; rw [decide_eq_true (show 126 < (Utf8.decode s i).1 by omega), Bool.or_true])]
      have e : okB (s[i]'hi) = false := by unfold okB; rw [decide_eq_true (show 126 < ((s[i]'hi).toNat : Int) by omega), Bool.or_true]; rfl
      rw [e, decide_eq_true (by omega)]
      rfl
theorem plain_con (s : ByteArray) (n : Int) : Con P 163 [Sx s, I n] (Bl (decide ((s.size : Int) ≤ n) && plainB s)) [] := by
  refine Con.plain (vs := [.string s, .int .i64 n]) (by kernel_rfl) rfl fun w => json_Plain.calls s n _ w ?_
  unfold json_Plain.f Lib.idxFunc
  rw [plain_from s s.size 0 (by omega), Bool.not_not]
  rfl
theorem short_con (s : ByteArray) : Con P 131 [Sx s] (Bl (shortB s)) [] := by
  refine Con.of T_ok Tryz.func131 rfl (by kernel_rfl) (by kernel_rfl) (aw_of T_ok (by kernel_rfl) ?_)
  conv => whnf
  refine callS (plain_con s 40) rfl ?_
  conv => whnf
  refine finB ⟨?_⟩
  rw [shortB, Bool.and_comm]
  congr 1
  exact decide_eq_decide.2 (by omega)
end Go.Proofs.YtfjllfjmggooeaaGreatDoor.Rx

/- Names. -/
set_option linter.unusedVariables false
set_option linter.unusedSimpArgs false
namespace Go.Rx
def wordN (n : Int) : Bool := letN n || digN n
def runB (p : UInt8 → Bool) (s : ByteArray) : Nat := (s.data.toList.takeWhile p).length
theorem run_go {p : UInt8 → Bool} {s : ByteArray} {k : Nat} (h : k < s.size) (hp : p s[k] = true) : k + ((s.data.toList.drop k).takeWhile p).length = (k + 1) + ((s.data.toList.drop (k + 1)).takeWhile p).length := by
  rw [List.drop_eq_getElem_cons (by simpa using h), List.takeWhile_cons_of_pos (show p (s.data.toList[k]'(by simpa using h)) = true from hp), List.length_cons]; omega
theorem run_stop {p : UInt8 → Bool} {s : ByteArray} {k : Nat} (h : k < s.size) (hp : p s[k] = false) : k + ((s.data.toList.drop k).takeWhile p).length = k := by
  rw [List.drop_eq_getElem_cons (by simpa using h), List.takeWhile_cons_of_neg (by show ¬ p s[k] = true; rw [hp]; decide)]; rfl
theorem run_end {p : UInt8 → Bool} {s : ByteArray} {k : Nat} (h : s.size ≤ k) : k + ((s.data.toList.drop k).takeWhile p).length = k := by
  rw [List.drop_of_length_le (by simpa using h)]; rfl
def wordC (c : UInt8) : Bool := wordN c.toNat
def numV (n : Int) (c : UInt8) : Int := if n ≤ 1073741824 then IntKind.i64.wrap (IntKind.i64.wrap (n * 10) + IntKind.i64.wrap (IntKind.u8.wrap ((c.toNat : Int) - 48))) else n
def numGo : List UInt8 → Int → Nat → Int × Nat
  | [], n, k => (n, k)
  | c :: l, n, k => if digN c.toNat then numGo l (numV n c) (k + 1) else (n, k)
theorem num_go {s : ByteArray} {k : Nat} {n : Int} (h : k < s.size) : numGo (s.data.toList.drop k) n k = if digN s[k].toNat then numGo (s.data.toList.drop (k + 1)) (numV n s[k]) (k + 1) else (n, k) := by
  rw [List.drop_eq_getElem_cons (by simpa using h), numGo]; rfl
theorem num_end {s : ByteArray} {k : Nat} {n : Int} (h : s.size ≤ k) : numGo (s.data.toList.drop k) n k = (n, k) := by
  rw [List.drop_of_length_le (by simpa using h)]; rfl
abbrev num3 (p : Int × Int × Bool) : AV := .tup [.lf (.pv (pI p.1)), .lf (.pv (pI p.2.1)), .lf (.pv (pB p.2.2))]
/-- What is told of a number whose digits are read. -/
def numFin (s : ByteArray) (neg : Bool) (p : Int × Nat) : Int × Int × Bool :=
  if (if neg then IntKind.i64.wrap ((p.2 : Int) - 1) else p.2) = 0 then (0, p.2, false) else if 1073741824 < p.1 then (0, p.2, false)
  else if ((s[if neg then 1 else 0]?).getD 0).toNat = 48 ∧ (1 < (if neg then IntKind.i64.wrap ((p.2 : Int) - 1) else p.2) ∨ neg = true) then (0, p.2, false)
  else (IntKind.i64.wrap ((if neg then -1 else 1) * p.1), p.2, true)
def numR (s : ByteArray) : Int × Int × Bool :=
  let neg := Lib.hasPrefix s.data.toList [45]
  numFin s neg (numGo (s.data.toList.drop (if neg then 1 else 0)) 0 (if neg then 1 else 0))
end Go.Rx
namespace Go.Proofs.YtfjllfjmggooeaaGreatDoor.Rx
open Go.Rx Go.Proofs Go.Proofs.YtfjllfjmggooeaaGreatDoor.RxH

theorem size1_con (n : Int) : Con P 217 [U8 n] (Bl (wordN n)) [] := by
  refine Con.of T_ok Tryz.func217 rfl (by kernel_rfl) (by kernel_rfl) (aw_of T_ok (by kernel_rfl) ?_)
  conv => whnf
  refine callS (letter_con n) rfl ?_
  conv => whnf
  split <;> rename_i h <;> conv => whnf
  · refine finB ⟨?_⟩; rw [wordN, h]; rfl
  · refine callS (digit_con n) rfl ?_
    conv => whnf
    refine finB ⟨?_⟩; rw [wordN, h]; rfl
theorem run_con (s : ByteArray) (hs : okS s) : Con P 216 [Sx s, .lf (.fn 217 [])] (I (runB wordC s)) [] := by
  simp only [okS] at hs
  refine Con.of T_ok Tryz.func216 rfl (by kernel_rfl) (by kernel_rfl) (aw_of T_ok (by kernel_rfl) ?_)
  conv => whnf
  refine AW.loop (fun k : Nat => k ≤ s.size ∧ k + ((s.data.toList.drop k).takeWhile wordC).length = runB wordC s) (fun k => [(0, Sx s), (1, .lf (.fn 217 [])), (5, Go.Rx.I k)]) (fun _ => []) (fun k => s.size - k) [] ?_ ?_
  · exact ⟨0, ⟨Nat.zero_le _, by rw [runB, List.drop_zero, Nat.zero_add]⟩, ⟨rfl, rfl, rfl, trivial⟩, ⟨[], rfl⟩, rfl, rfl⟩
  · rintro k ⟨hk, hpre⟩
    refine aw_of T_ok (by kernel_rfl) ?_
    conv => whnf
    split <;> rename_i hlt <;> conv => whnf
    · have hks : k < s.size := by simpa using hlt
      refine ⟨by omega, s[k], atB hks, ?_⟩
      conv => whnf
      refine callS (size1_con s[k].toNat) rfl ?_
      conv => whnf
      split <;> rename_i he <;> conv => whnf
      · rw [run_go hks he] at hpre
        exact ⟨k + 1, ⟨⟨by omega, hpre⟩, by omega⟩, ⟨rfl, rfl, congrArg Go.Rx.I (wrapI (by omega)), trivial⟩, ⟨[], rfl⟩, rfl, rfl⟩
      · rw [run_stop hks he] at hpre
        exact finI ⟨by rw [hpre]⟩
    · have hks : s.size ≤ k := by simpa using hlt
      rw [run_end hks] at hpre
      exact finI ⟨by rw [hpre]⟩
theorem hasPrefix_con (a b : ByteArray) : Con P 221 [Sx a, Sx b] (Bl (Lib.hasPrefix a.data.toList b.data.toList)) [] :=
  Con.plain (vs := [.string a, .string b]) (by kernel_rfl) rfl fun w => (Tryz.strings_HasPrefix a b w).mono (by rintro e w' ⟨rfl, rfl⟩; exact ⟨rfl, RowKit.Below.refl _ _⟩)
theorem indexByte_con (a : ByteArray) (c : Int) : Con P 222 [Sx a, U8 c] (I (Lib.indexByte a.data.toList c.toNat.toUInt8)) [] :=
  Con.plain (vs := [.string a, .int .u8 c]) (by kernel_rfl) rfl fun w => (Tryz.strings_IndexByte a c w).mono (by rintro e w' ⟨rfl, rfl⟩; exact ⟨rfl, RowKit.Below.refl _ _⟩)
theorem jstring_con (s : ByteArray) (h : okS s) : ∃ (t : ByteArray) (n : Int) (ok : Bool), Con P 220 [Sx s] (.tup [.lf (.pv (pS t)), .lf (.pv (pI n)), .lf (.pv (pB ok))]) [] := by
  simp only [okS] at h
  have hf : json_String.f s = some (⟨(strGo (s.data.toList.drop 1) 1 []).1.toArray⟩, ((strGo (s.data.toList.drop 1) 1 []).2.1 : Int), (strGo (s.data.toList.drop 1) 1 []).2.2) := by
    unfold json_String.f
    rw [if_pos (by omega)]
  generalize json_String.f s = o at hf
  exact ⟨_, _, _, Con.plains (vs := [.string s]) (rs := [.string ⟨(strGo (s.data.toList.drop 1) 1 []).1.toArray⟩, .int .i64 ((strGo (s.data.toList.drop 1) 1 []).2.1 : Int), .bool (strGo (s.data.toList.drop 1) 1 []).2.2]) (by kernel_rfl) (by simp [Value.oneCell']) fun w => json_String.calls s _ _ _ w (by
    unfold json_String.f
    rw [if_pos (by omega)])⟩
theorem one_byte {s : ByteArray} (h : Lib.hasPrefix s.data.toList [45] = true) : 1 ≤ s.size := by
  unfold Lib.hasPrefix at h
  have h1 : s.data.toList.length = s.size := by simp
  generalize s.data.toList = l at h h1
  cases l with
  | nil => cases h
  | cons c l => simp at h1; omega
theorem fin3 {a b : Int} {c : Bool} {q : Int × Int × Bool} (h : Fin (a, b, c) q) : ∃ zs, Fa WkA [Go.Rx.I a, Go.Rx.I b, Bl c] zs ∧ pack zs = some (num3 q) := ⟨_, wk_refl _, by rw [← h.out]; rfl⟩
theorem number_con (s : ByteArray) (hs : okS s) : Con P 219 [Sx s] (num3 (numR s)) [] := by
  simp only [okS] at hs
  refine Con.of T_ok Tryz.func219 rfl (by kernel_rfl) (by kernel_rfl) (aw_ofC T_ok 0 (by kernel_rfl) ?_)
  conv => whnf
  refine AW.cut (fun q : Bool × Int × Nat => q.1 = Lib.hasPrefix s.data.toList [45] ∧ q.2.2 ≤ s.size ∧ (q.1 = true → 1 ≤ q.2.2) ∧ numR s = numFin s q.1 q.2) (fun q => [(0, Sx s), (2, Go.Rx.I q.2.1), (3, Go.Rx.I q.2.2), (5, Go.Rx.I (if q.1 then -1 else 1))]) (fun _ => []) [] (AW.block (aw_ofC T_ok 2 (by kernel_rfl) ?_)) ?_
  · conv => whnf
    refine AW.cut (fun neg : Bool => neg = Lib.hasPrefix s.data.toList [45]) (fun neg => [(0, Sx s), (2, Go.Rx.I 0), (3, Go.Rx.I (if neg then 1 else 0)), (5, Go.Rx.I (if neg then -1 else 1))]) (fun _ => []) [] (aw_of T_ok (by kernel_rfl) ?_) ?_
    · conv => whnf
      refine callS (hasPrefix_con s ⟨#[45]⟩) rfl ?_
      conv => whnf
      split <;> rename_i h <;> conv => whnf
      · exact ⟨true, h.symm, ⟨rfl, rfl, rfl, rfl, trivial⟩, ⟨[], rfl⟩, rfl, rfl⟩
      · exact ⟨false, h.symm, ⟨rfl, rfl, rfl, rfl, trivial⟩, ⟨[], rfl⟩, rfl, rfl⟩
    rintro neg hneg
    have hR : numR s = numFin s neg (numGo (s.data.toList.drop (if neg then 1 else 0)) 0 (if neg then 1 else 0)) := by rw [hneg]; rfl
    refine aw_of T_ok (by kernel_rfl) ?_
    conv => whnf
    refine AW.loop (fun p : Int × Nat => p.2 ≤ s.size ∧ (neg = true → 1 ≤ p.2) ∧ numGo (s.data.toList.drop p.2) p.1 p.2 = numGo (s.data.toList.drop (if neg then 1 else 0)) 0 (if neg then 1 else 0)) (fun p => [(0, Sx s), (2, Go.Rx.I p.1), (3, Go.Rx.I p.2), (5, Go.Rx.I (if neg then -1 else 1))]) (fun _ => []) (fun p => s.size - p.2) [] ?_ ?_
    · cases neg with
      | true => exact ⟨(0, 1), ⟨one_byte hneg.symm, fun _ => Nat.le_refl _, rfl⟩, ⟨rfl, rfl, rfl, rfl, trivial⟩, ⟨[], rfl⟩, rfl, rfl⟩
      | false => exact ⟨(0, 0), ⟨Nat.zero_le _, (by intro h; cases h), rfl⟩, ⟨rfl, rfl, rfl, rfl, trivial⟩, ⟨[], rfl⟩, rfl, rfl⟩
    · rintro ⟨n, k⟩ ⟨hk, hn1, hpre⟩
      simp only at hk hn1 hpre
      refine aw_of T_ok (by kernel_rfl) ?_
      conv => whnf
      split <;> rename_i hlt <;> conv => whnf
      · have hks : k < s.size := by simpa using hlt
        refine ⟨by omega, s[k], atB hks, ?_⟩
        conv => whnf
        refine callS (digit1_con s[k].toNat) rfl ?_
        conv => whnf
        rw [num_go hks] at hpre
        split <;> rename_i he <;> conv => whnf
        · rw [if_pos he] at hpre
          split <;> rename_i h1 <;> conv => whnf
          · refine ⟨by omega, s[k], atB hks, ?_⟩
            conv => whnf
            refine ⟨(numV n s[k], k + 1), ⟨⟨by show k + 1 ≤ _; omega, fun _ => by show 1 ≤ k + 1; omega, hpre⟩, by show _ - (k + 1) < _; omega⟩, ⟨rfl, ?_, congrArg Go.Rx.I (wrapI (by omega)), rfl, trivial⟩, ⟨[], rfl⟩, rfl, rfl⟩
            exact congrArg Go.Rx.I (by rw [numV, if_pos (of_decide_eq_true h1)])
          · refine ⟨(numV n s[k], k + 1), ⟨⟨by show k + 1 ≤ _; omega, fun _ => by show 1 ≤ k + 1; omega, hpre⟩, by show _ - (k + 1) < _; omega⟩, ⟨rfl, ?_, congrArg Go.Rx.I (wrapI (by omega)), rfl, trivial⟩, ⟨[], rfl⟩, rfl, rfl⟩
            exact congrArg Go.Rx.I (by rw [numV, if_neg (of_decide_eq_false h1)])
        · rw [if_neg (by rw [he]; decide)] at hpre
          exact ⟨(neg, n, k), ⟨hneg, hk, hn1, by rw [hR, ← hpre]⟩, ⟨rfl, rfl, rfl, rfl, trivial⟩, ⟨[], rfl⟩, rfl, rfl⟩
      · have hks : s.size ≤ k := by simpa using hlt
        rw [num_end hks] at hpre
        exact ⟨(neg, n, k), ⟨hneg, hk, hn1, by rw [hR, ← hpre]⟩, ⟨rfl, rfl, rfl, rfl, trivial⟩, ⟨[], rfl⟩, rfl, rfl⟩
  · rintro ⟨neg, n, k⟩ ⟨hneg, hk, hn1, hR⟩
    simp only at hk hn1 hneg hR
    rw [hR]
    refine aw_of T_ok (by kernel_rfl) ?_
    cases neg with
    | false =>
      conv => whnf
      have e : IntKind.i64.wrap ((k : Int) - k) = 0 := by rw [Int.sub_self]; rfl
      split <;> rename_i h1 <;> conv => whnf
      · refine fin3 ⟨?_⟩
        have h1' : (k : Int) = 0 := by simpa using h1
        simp [numFin, h1']
      have h1' : ¬ (k : Int) = 0 := by simpa using h1
      split <;> rename_i h2 <;> conv => whnf
      · refine fin3 ⟨?_⟩
        have h2' := of_decide_eq_true h2
        simp [numFin, h1', h2']
      have h2' := of_decide_eq_false h2
      have h0 : 0 < s.size := by omega
      refine ⟨by show 0 ≤ IntKind.i64.wrap ((k : Int) - k); rw [e]; decide, s[0], by show s[(IntKind.i64.wrap ((k : Int) - k)).toNat]? = _; rw [e]; exact atB h0, ?_⟩
      conv => whnf
      split <;> rename_i h3 <;> conv => whnf
      · have h3' : s[0].toNat = 48 := by have := eq_of_beq h3; omega
        split <;> rename_i h4 <;> conv => whnf
        · refine fin3 ⟨?_⟩
          have h4' : 1 < (k : Int) := of_decide_eq_true h4
          (simp [numFin, h1', h2', h0, h3', h4'] <;> omega)
        · refine fin3 ⟨?_⟩
          have h4' : ¬ 1 < (k : Int) := of_decide_eq_false h4
          (simp [numFin, h1', h2', h0, h3', h4'] <;> omega)
      · refine fin3 ⟨?_⟩
        have h3' : ¬ s[0].toNat = 48 := fun e => by rw [e] at h3; cases h3
        (simp [numFin, h1', h2', h0, h3'] <;> omega)
    | true =>
      have hk1 : 1 ≤ k := hn1 rfl
      conv => whnf
      have e1 : IntKind.i64.wrap ((k : Int) - 1) = (k : Int) - 1 := wrapI (by omega)
      have e : IntKind.i64.wrap ((k : Int) - IntKind.i64.wrap ((k : Int) - 1)) = 1 := by rw [e1, show (k : Int) - ((k : Int) - 1) = 1 by omega]; rfl
      split <;> rename_i h1 <;> conv => whnf
      · refine fin3 ⟨?_⟩
        have h1' : IntKind.i64.wrap ((k : Int) - 1) = 0 := by simpa using h1
        simp [numFin, h1']
      have h1' : ¬ IntKind.i64.wrap ((k : Int) - 1) = 0 := by simpa using h1
      split <;> rename_i h2 <;> conv => whnf
      · refine fin3 ⟨?_⟩
        have h2' := of_decide_eq_true h2
        simp [numFin, h1', h2']
      have h2' := of_decide_eq_false h2
      have h0 : 1 < s.size := by omega
      refine ⟨by show 0 ≤ IntKind.i64.wrap ((k : Int) - IntKind.i64.wrap ((k : Int) - 1)); rw [e]; decide, s[1], by show s[(IntKind.i64.wrap ((k : Int) - IntKind.i64.wrap ((k : Int) - 1))).toNat]? = _; rw [e]; exact atB h0, ?_⟩
      conv => whnf
      split <;> rename_i h3 <;> conv => whnf
      · have h3' : s[1].toNat = 48 := by have := eq_of_beq h3; omega
        split <;> rename_i h4 <;> conv => whnf
        · refine fin3 ⟨?_⟩
          simp [numFin, h1', h2', h0, h3']
        · refine fin3 ⟨?_⟩
          simp [numFin, h1', h2', h0, h3']
      · refine fin3 ⟨?_⟩
        have h3' : ¬ s[1].toNat = 48 := fun e => by rw [e] at h3; cases h3
        simp [numFin, h1', h2', h0, h3']
end Go.Proofs.YtfjllfjmggooeaaGreatDoor.Rx

/- Is a text a name? The program's answer. -/
set_option linter.unusedVariables false
set_option linter.unusedSimpArgs false
namespace Go.Rx
def wordL (s : ByteArray) : Int := if 12 < runB wordC s then 0 else runB wordC s
def nameB (s : ByteArray) : Bool := if h : 0 < s.size then letN s[0].toNat && (wordL s == s.size) else false
end Go.Rx
namespace Go.Proofs.YtfjllfjmggooeaaGreatDoor.Rx
open Go.Rx Go.Proofs Go.Proofs.YtfjllfjmggooeaaGreatDoor.RxH

theorem size_con (s : ByteArray) (hs : okS s) (h0 : 0 < s.size) : ∃ n : Int, Con P 205 [Sx s] (I n) [] ∧ (letN s[0].toNat = true → n = wordL s) := by
  obtain ⟨tx, tn, tok, hstr⟩ := jstring_con s hs
  have key : ∃ n : Int, (n = if letN s[0].toNat then wordL s else if ((s[0].toNat : Int) == 45) || digN s[0].toNat then (if (numR s).2.2 then (numR s).2.1 else 0)
      else if (s[0].toNat : Int) == 34 then (if tok && decide ((tx.size : Int) ≤ 40) then tn else 0) else if Lib.hasPrefix s.data.toList [46, 46, 46] then 3 else if decide ((0 : Int) ≤ Lib.indexByte [33, 36, 40, 41, 58, 61, 64, 91, 93, 123, 125] (s[0].toNat : Int).toNat.toUInt8) then 1 else 0) := ⟨_, rfl⟩
  obtain ⟨n, hn⟩ := key
  refine ⟨n, ?_, fun h => by rw [hn, if_pos h]⟩
  refine Con.of T_ok Tryz.func205 rfl (by kernel_rfl) (by kernel_rfl) (aw_of T_ok (by kernel_rfl) ?_)
  conv => whnf
  refine ⟨by omega, s[0], atB h0, ?_⟩
  conv => whnf
  refine callS (letter_con s[0].toNat) rfl ?_
  conv => whnf
  split <;> rename_i h1 <;> conv => whnf
  · rw [if_pos h1] at hn
    refine callS (run_con s hs) rfl ?_
    conv => whnf
    split <;> rename_i h2 <;> conv => whnf
    · refine finI ⟨?_⟩
      have h2' : 12 < runB wordC s := by have := of_decide_eq_true h2; omega
      rw [hn, wordL, if_pos h2']
    · refine finI ⟨?_⟩
      have h2' : ¬ 12 < runB wordC s := by have := of_decide_eq_false h2; omega
      rw [hn, wordL, if_neg h2']
  · rw [if_neg (by rw [h1]; decide)] at hn
    have num : ((s[0].toNat : Int) == 45 || digN s[0].toNat) = true → ∀ x, (if (numR s).2.2 then (numR s).2.1 else 0) = x → n = x := fun hc x hx => by rw [hn, if_pos hc, hx]
    split <;> rename_i h2 <;> conv => whnf
    · have num := num (by rw [show ((s[0].toNat : Int) == 45) = true from h2]; rfl)
      refine callS (number_con s hs) rfl ?_
      conv => whnf
      split <;> rename_i h3 <;> conv => whnf
      · exact finI ⟨(num _ (by rw [if_pos h3])).symm⟩
      · exact finI ⟨(num _ (by rw [if_neg (by rw [h3]; decide)])).symm⟩
    · refine callS (digit_con s[0].toNat) rfl ?_
      conv => whnf
      split <;> rename_i h4 <;> conv => whnf
      · have num := num (by rw [h4, Bool.or_true])
        refine callS (number_con s hs) rfl ?_
        conv => whnf
        split <;> rename_i h3 <;> conv => whnf
        · exact finI ⟨(num _ (by rw [if_pos h3])).symm⟩
        · exact finI ⟨(num _ (by rw [if_neg (by rw [h3]; decide)])).symm⟩
      · rw [if_neg (by rw [show ((s[0].toNat : Int) == 45) = false from h2, h4]; decide)] at hn
        split <;> rename_i h5 <;> conv => whnf
        · rw [if_pos (show ((s[0].toNat : Int) == 34) = true from h5)] at hn
          refine callS hstr rfl ?_
          conv => whnf
          split <;> rename_i h6 <;> conv => whnf
          · split <;> rename_i h7 <;> conv => whnf
            · refine finI ⟨?_⟩
              rw [hn, if_pos (by rw [show decide ((tx.size : Int) ≤ 40) = true from h7]; rfl)]
            · refine finI ⟨?_⟩
              rw [hn, if_neg (by rw [show decide ((tx.size : Int) ≤ 40) = false from h7]; decide)]
          · refine finI ⟨?_⟩
            rw [hn, if_neg (by rw [Bool.false_and]; decide)]
        · rw [if_neg (by rw [show ((s[0].toNat : Int) == 34) = false from h5]; decide)] at hn
          refine callS (hasPrefix_con s ⟨#[46, 46, 46]⟩) rfl ?_
          conv => whnf
          split <;> rename_i h6 <;> conv => whnf
          · exact finI ⟨by rw [hn, if_pos h6]⟩
          · rw [if_neg (by rw [h6]; decide)] at hn
            refine callS (indexByte_con ⟨#[33, 36, 40, 41, 58, 61, 64, 91, 93, 123, 125]⟩ (s[0].toNat : Int)) rfl ?_
            conv => whnf
            split <;> rename_i h7 <;> conv => whnf
            · exact finI ⟨by rw [hn, if_pos (show decide ((0 : Int) ≤ Lib.indexByte [33, 36, 40, 41, 58, 61, 64, 91, 93, 123, 125] (s[0].toNat : Int).toNat.toUInt8) = true from h7)]⟩
            · exact finI ⟨by rw [hn, if_neg (by rw [show decide ((0 : Int) ≤ Lib.indexByte [33, 36, 40, 41, 58, 61, 64, 91, 93, 123, 125] (s[0].toNat : Int).toNat.toUInt8) = false from h7]; decide)]⟩
theorem ne_empty (s : ByteArray) : (s != ⟨#[]⟩) = decide (0 < s.size) := by
  rw [Bool.eq_iff_iff, bne_iff_ne, decide_eq_true_eq]
  constructor
  · intro h
    rcases Nat.eq_zero_or_pos s.size with e | e
    · exact absurd (ByteArray.ext (Array.eq_empty_of_size_eq_zero e)) h
    · exact e
  · rintro h rfl
    exact absurd h (by decide)
theorem lexOne_con (s : ByteArray) (hs : okS s) : ∃ b, Con P 191 [Sx s] (Bl b) [] ∧ (s.size = 0 → b = false) ∧ ∀ h : 0 < s.size, letN s[0].toNat = true → b = (wordL s == s.size) := by
  by_cases h0 : 0 < s.size
  · obtain ⟨n, hc, hn⟩ := size_con s hs h0
    refine ⟨n == s.size, ?_, fun e => by omega, fun _ h => by rw [hn h]⟩
    refine Con.of T_ok Tryz.func191 rfl (by kernel_rfl) (by kernel_rfl) (aw_of T_ok (by kernel_rfl) ?_)
    conv => whnf
    split <;> rename_i h1 <;> conv => whnf
    · refine callS hc rfl ?_
      conv => whnf
      exact finB ⟨rfl⟩
    · have h1' : (s != ⟨#[]⟩) = false := h1
      rw [ne_empty, decide_eq_true h0] at h1'
      cases h1'
  · refine ⟨false, ?_, fun _ => rfl, fun h => absurd h h0⟩
    refine Con.of T_ok Tryz.func191 rfl (by kernel_rfl) (by kernel_rfl) (aw_of T_ok (by kernel_rfl) ?_)
    conv => whnf
    split <;> rename_i h1 <;> conv => whnf
    · have h1' : (s != ⟨#[]⟩) = true := h1
      rw [ne_empty, decide_eq_false h0] at h1'
      cases h1'
    · exact finB ⟨rfl⟩
theorem name_con (s : ByteArray) (hs : okS s) : Con P 164 [Sx s] (Bl (nameB s)) [] := by
  obtain ⟨b, hc, hb0, hb⟩ := lexOne_con s hs
  refine Con.of T_ok Tryz.func164 rfl (by kernel_rfl) (by kernel_rfl) (aw_of T_ok (by kernel_rfl) ?_)
  conv => whnf
  refine callS hc rfl ?_
  conv => whnf
  split <;> rename_i h1 <;> conv => whnf
  · have h0 : 0 < s.size := by
      rcases Nat.eq_zero_or_pos s.size with e | e
      · cases hb0 e
      · exact e
    refine ⟨by omega, s[0], atB h0, ?_⟩
    conv => whnf
    refine callS (letter_con s[0].toNat) rfl ?_
    conv => whnf
    refine finB ⟨?_⟩
    rw [nameB, dif_pos h0]
    cases hl : letN s[0].toNat with
    | false => rfl
    | true => rw [← hb h0 hl]; rfl
  · refine finB ⟨?_⟩
    rw [nameB]
    split
    · rename_i h0
      cases hl : letN s[0].toNat with
      | false => rfl
      | true => rw [← hb h0 hl]; rfl
    · rfl
end Go.Proofs.YtfjllfjmggooeaaGreatDoor.Rx

/- Is a text a name? The page's answer. -/
set_option linter.unusedVariables false
set_option linter.unusedSimpArgs false
namespace Go.Rx
def intGo : List UInt8 → Int → Option Int
  | [], n => some n
  | c :: l, n => if (decide ((c.toNat : Int) < 48) || decide (57 < (c.toNat : Int))) = true then none else intGo l (IntKind.i64.wrap (IntKind.i64.wrap (10 * n) + IntKind.i64.wrap (IntKind.u8.wrap ((c.toNat : Int) - 48))))
theorem int_go {s : ByteArray} {k : Nat} {n : Int} (h : k < s.size) : intGo (s.data.toList.drop k) n = if (decide ((s[k].toNat : Int) < 48) || decide (57 < (s[k].toNat : Int))) = true then none else intGo (s.data.toList.drop (k + 1)) (IntKind.i64.wrap (IntKind.i64.wrap (10 * n) + IntKind.i64.wrap (IntKind.u8.wrap ((s[k].toNat : Int) - 48)))) := by
  rw [List.drop_eq_getElem_cons (by simpa using h), intGo]; rfl
theorem int_end {s : ByteArray} {k : Nat} {n : Int} (h : s.size ≤ k) : intGo (s.data.toList.drop k) n = some n := by
  rw [List.drop_of_length_le (by simpa using h)]; rfl
def intFin (s d : ByteArray) : Int × Bool :=
  if (d.size : Int) = 0 then (0, false) else if 10 < (d.size : Int) then (0, false) else if ((d[0]?).getD 0).toNat = 48 ∧ (s != ⟨#[48]⟩) = true then (0, false)
  else match intGo d.data.toList 0 with
    | none => (0, false)
    | some n => if 1073741824 < n then (0, false) else if (d.size : Int) < s.size then (IntKind.i64.wrap (0 - n), true) else (n, true)
def intR (s : ByteArray) : Int × Bool := if 0 < s.size ∧ ((s[0]?).getD 0).toNat = 45 then intFin s (s.extract 1 s.size) else intFin s s
abbrev num2 (p : Int × Bool) : AV := .tup [.lf (.pv (pI p.1)), .lf (.pv (pB p.2))]
theorem fin2 {a : Int} {c : Bool} {q : Int × Bool} (h : Fin (a, c) q) : ∃ zs, Fa WkA [Go.Rx.I a, Bl c] zs ∧ pack zs = some (num2 q) := ⟨_, wk_refl _, by rw [← h.out]; rfl⟩
end Go.Rx
namespace Go.Proofs.YtfjllfjmggooeaaGreatDoor.Rx
open Go.Rx Go.Proofs Go.Proofs.YtfjllfjmggooeaaGreatDoor.RxH

theorem int_con (s : ByteArray) (hs : okS s) : Con P 212 [Sx s] (num2 (intR s)) [] := by
  simp only [okS] at hs
  refine Con.of T_ok Tryz.func212 rfl (by kernel_rfl) (by kernel_rfl) (aw_ofC T_ok 1002 (by kernel_rfl) ?_)
  conv => whnf
  refine AW.cut (fun d : ByteArray => d.size ≤ s.size ∧ intR s = intFin s d) (fun d => [(0, Sx s), (4, Sx d)]) (fun _ => []) [] (aw_of T_ok (by kernel_rfl) ?_) ?_
  · conv => whnf
    split <;> rename_i h1 <;> conv => whnf
    · have h0 : 0 < s.size := by have := of_decide_eq_true h1; omega
      refine ⟨by omega, s[0], atB h0, ?_⟩
      conv => whnf
      split <;> rename_i h2 <;> conv => whnf
      · have h2' : s[0].toNat = 45 := by have := eq_of_beq h2; omega
        refine ⟨by decide, by omega, by omega, ?_⟩
        conv => whnf
        refine ⟨s.extract 1 s.size, ⟨by rw [ByteArray.size_extract]; omega, ?_⟩, ⟨rfl, ?_, trivial⟩, ⟨[], rfl⟩, rfl, rfl⟩
        · rw [intR, if_pos ⟨h0, by simp [h0, h2']⟩]
        · exact congrArg Sx (by simp)
      · have h2' : ¬ s[0].toNat = 45 := fun e => by rw [e] at h2; cases h2
        exact ⟨s, ⟨Nat.le_refl _, by rw [intR, if_neg (by simp [h0, h2'])]⟩, ⟨rfl, rfl, trivial⟩, ⟨[], rfl⟩, rfl, rfl⟩
    · have h0 : ¬ 0 < s.size := by have := of_decide_eq_false h1; omega
      exact ⟨s, ⟨Nat.le_refl _, by rw [intR, if_neg (fun e => h0 e.1)]⟩, ⟨rfl, rfl, trivial⟩, ⟨[], rfl⟩, rfl, rfl⟩
  rintro d ⟨hd, hR⟩
  rw [hR]
  refine aw_ofC T_ok 1004 (by kernel_rfl) ?_
  conv => whnf
  refine AW.cut (fun _ : Unit => intFin s d = match intGo d.data.toList 0 with
    | none => (0, false)
    | some n => if 1073741824 < n then (0, false) else if (d.size : Int) < s.size then (IntKind.i64.wrap (0 - n), true) else (n, true)) (fun _ => [(0, Sx s), (4, Sx d)]) (fun _ => []) [] (aw_of T_ok (by kernel_rfl) ?_) ?_
  · conv => whnf
    split <;> rename_i h1 <;> conv => whnf
    · have h1' : (d.size : Int) = 0 := eq_of_beq h1
      exact fin2 ⟨by rw [intFin, if_pos h1']⟩
    · have h1' : ¬ (d.size : Int) = 0 := fun e => by rw [e] at h1; cases h1
      split <;> rename_i h2 <;> conv => whnf
      · have h2' : 10 < (d.size : Int) := of_decide_eq_true h2
        exact fin2 ⟨by rw [intFin, if_neg h1', if_pos h2']⟩
      · have h2' : ¬ 10 < (d.size : Int) := of_decide_eq_false h2
        have h0 : 0 < d.size := by omega
        refine ⟨by omega, d[0], atB h0, ?_⟩
        conv => whnf
        split <;> rename_i h3 <;> conv => whnf
        · have h3' : d[0].toNat = 48 := by have := eq_of_beq h3; omega
          split <;> rename_i h4 <;> conv => whnf
          · exact fin2 ⟨by rw [intFin, if_neg h1', if_neg h2', if_pos ⟨by simp [h0, h3'], h4⟩]⟩
          · exact ⟨(), by rw [intFin, if_neg h1', if_neg h2', if_neg (by rintro ⟨_, e⟩; rw [show (s != ⟨#[48]⟩) = false from h4] at e; cases e)], ⟨rfl, rfl, trivial⟩, ⟨[], rfl⟩, rfl, rfl⟩
        · have h3' : ¬ d[0].toNat = 48 := fun e => by rw [e] at h3; cases h3
          exact ⟨(), by rw [intFin, if_neg h1', if_neg h2', if_neg (by simp [h0, h3'])], ⟨rfl, rfl, trivial⟩, ⟨[], rfl⟩, rfl, rfl⟩
  rintro _ hI
  rw [hI]
  refine aw_of T_ok (by kernel_rfl) ?_
  conv => whnf
  refine AW.loop (fun p : Nat × Int => p.1 ≤ d.size ∧ intGo (d.data.toList.drop p.1) p.2 = intGo d.data.toList 0) (fun p => [(0, Sx s), (4, Sx d), (5, Go.Rx.I p.2), (6, Go.Rx.I p.1)]) (fun _ => []) (fun p => d.size - p.1) [] ?_ ?_
  · exact ⟨(0, 0), ⟨Nat.zero_le _, rfl⟩, ⟨rfl, rfl, rfl, rfl, trivial⟩, ⟨[], rfl⟩, rfl, rfl⟩
  rintro ⟨k, n⟩ ⟨hk, hpre⟩
  simp only at hk hpre
  rw [← hpre]
  refine aw_of T_ok (by kernel_rfl) ?_
  conv => whnf
  split <;> rename_i hlt <;> conv => whnf
  · have hks : k < d.size := by simpa using hlt
    refine ⟨by omega, d[k], atB hks, ?_⟩
    conv => whnf
    split <;> rename_i h4 <;> conv => whnf
    · refine fin2 ⟨?_⟩
      rw [int_go hks, if_pos (by rw [show decide ((d[k].toNat : Int) < 48) = true from h4]; rfl)]
    · refine ⟨by omega, d[k], atB hks, ?_⟩
      conv => whnf
      split <;> rename_i h5 <;> conv => whnf
      · refine fin2 ⟨?_⟩
        rw [int_go hks, if_pos (by rw [show decide (57 < (d[k].toNat : Int)) = true from h5, Bool.or_true])]
      · refine ⟨by omega, d[k], atB hks, ?_⟩
        conv => whnf
        have hst : intGo (d.data.toList.drop (k + 1)) (IntKind.i64.wrap (IntKind.i64.wrap (10 * n) + IntKind.i64.wrap (IntKind.u8.wrap ((d[k].toNat : Int) - 48)))) = intGo (d.data.toList.drop k) n := by
          rw [int_go (n := n) hks, if_neg (by rw [show decide ((d[k].toNat : Int) < 48) = false from h4, show decide (57 < (d[k].toNat : Int)) = false from h5]; decide)]
        exact ⟨(k + 1, IntKind.i64.wrap (IntKind.i64.wrap (10 * n) + IntKind.i64.wrap (IntKind.u8.wrap ((d[k].toNat : Int) - 48)))), ⟨⟨by show k + 1 ≤ _; omega, hst⟩, by show _ - (k + 1) < _; omega⟩, ⟨rfl, rfl, rfl, congrArg Go.Rx.I (wrapI (by omega)), trivial⟩, ⟨[], rfl⟩, rfl, rfl⟩
  · have hks : d.size ≤ k := by simpa using hlt
    rw [int_end hks]
    split <;> rename_i h4 <;> conv => whnf
    · exact fin2 ⟨by simp only; rw [if_pos (of_decide_eq_true h4)]⟩
    · have h4' := of_decide_eq_false h4
      split <;> rename_i h5 <;> conv => whnf
      · exact fin2 ⟨by simp only; rw [if_neg h4', if_pos (of_decide_eq_true h5)]⟩
      · exact fin2 ⟨by simp only; rw [if_neg h4', if_neg (of_decide_eq_false h5)]⟩
end Go.Proofs.YtfjllfjmggooeaaGreatDoor.Rx
