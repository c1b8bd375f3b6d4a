/- A ledger stays one; what a key, once there, stands for. -/
import Derived.Test.YtooiiihaijpbaaaRxD13
import Derived.Test.YtooiiihaijpbaaaRxS
set_option linter.unusedVariables false
set_option linter.unusedSimpArgs false
namespace Go.Rx
theorem pos_cons_lt {a k : Int} {l : List Int} (h : a < k) : posL (a :: l) k = posL l k + 1 := by
  unfold posL; rw [List.takeWhile_cons, if_pos (by simpa using h)]; rfl
theorem pos_cons_ge {a k : Int} {l : List Int} (h : ¬ a < k) : posL (a :: l) k = 0 := by
  unfold posL; rw [List.takeWhile_cons, if_neg (by simpa using h)]; rfl
theorem pos_split {k : Int} : ∀ {l : List Int}, l.Pairwise (· < ·) → l.contains k = false → (∀ a ∈ l.take (posL l k), a < k) ∧ (∀ b ∈ l.drop (posL l k), k < b)
  | [], _, _ => ⟨fun a h => by simp at h, fun a h => by simp at h⟩
  | a :: l, hs, hc => by
    rw [List.pairwise_cons] at hs
    have hne : ¬ k = a := fun e => by subst e; simp at hc
    have hcl : l.contains k = false := by simp at hc ⊢; exact hc.2
    by_cases h : a < k
    · rw [pos_cons_lt h, List.take_succ_cons, List.drop_succ_cons]
      have ih := pos_split hs.2 hcl
      refine ⟨fun x hx => ?_, ih.2⟩
      rcases List.mem_cons.1 hx with rfl | hx
      · exact h
      · exact ih.1 x hx
    · rw [pos_cons_ge h]
      refine ⟨fun x hx => by simp at hx, fun b hb => ?_⟩
      rcases List.mem_cons.1 hb with rfl | hb
      · omega
      · have := hs.1 b hb; omega
theorem known_of {l : List Int} (h1 : ∀ x ∈ l, keyB x = true) (h2 : l.Pairwise (· < ·)) : knownB l = true := by
  refine rng_yes fun j hj => ?_
  rw [knownAt, List.getD_eq_getElem?_getD, List.getElem?_eq_getElem hj, Option.getD_some, h1 _ (List.getElem_mem hj), Bool.true_and]
  rcases Nat.eq_zero_or_pos j with rfl | h
  · rfl
  · rw [List.getD_eq_getElem?_getD, List.getElem?_eq_getElem (show j - 1 < l.length by omega), Option.getD_some]
    have := List.pairwise_iff_getElem.1 h2 (j - 1) j (by omega) hj (by omega)
    simp [this]
theorem ins_known {l : List Int} {k : Int} (h : knownB l = true) (hk : keyB k = true) (hc : l.contains k = false) : knownB (insL l (posL l k) k) = true := by
  have hs := known_sorted h
  have hm : ∀ x ∈ l, keyB x = true := fun x hx => by
    obtain ⟨i, hi, rfl⟩ := List.mem_iff_getElem.1 hx
    exact known_key h hi
  obtain ⟨h1, h2⟩ := pos_split hs hc
  unfold insL
  refine known_of (fun x hx => ?_) ?_
  · rw [List.mem_append, List.mem_cons] at hx
    rcases hx with hx | rfl | hx
    · exact hm x (List.mem_of_mem_take hx)
    · exact hk
    · exact hm x (List.mem_of_mem_drop hx)
  · rw [List.pairwise_append, List.pairwise_cons]
    refine ⟨hs.sublist (List.take_sublist _ _), ⟨h2, hs.sublist (List.drop_sublist _ _)⟩, fun a ha b hb => ?_⟩
    rcases List.mem_cons.1 hb with rfl | hb
    · exact h1 a ha
    · exact Int.lt_trans (h1 a ha) (h2 b hb)
theorem ins_has {l : List Int} {i : Nat} {k y : Int} : (insL l i k).contains y = (l.contains y || y == k) := by
  have : (insL l i k).contains y = ((l.take i ++ l.drop i).contains y || y == k) := by
    unfold insL
    rw [Bool.eq_iff_iff]
    simp only [List.contains_iff_mem, List.mem_append, List.mem_cons, Bool.or_eq_true, beq_iff_eq]
    constructor
    · rintro (h | h | h)
      · exact .inl (.inl h)
      · exact .inr h
      · exact .inl (.inr h)
    · rintro ((h | h) | h)
      · exact .inl h
      · exact .inr (.inr h)
      · exact .inr (.inl h)
  rw [this, List.take_append_drop]
theorem entry_known {g : Ledger} (h : entriesB g = true) {e : Entry} (he : e ∈ g.entries) : g.known.contains e.key = true := by
  obtain ⟨i, hi, rfl⟩ := List.mem_iff_getElem.1 he
  have := rng_at h hi
  rw [entryAt, List.getElem?_eq_getElem hi] at this
  simp only [Bool.and_eq_true] at this
  exact this.2.1
theorem entries_same {g : Ledger} {kn : List Int} (h : entriesB g = true) (hk : ∀ k, g.known.contains k = true → kn.contains k = true) : entriesB ⟨g.service, g.entries, kn⟩ = true := by
  refine rng_yes fun j hj => ?_
  replace hj : j < g.entries.length := hj
  have := rng_at h hj
  rw [entryAt, List.getElem?_eq_getElem hj] at this
  rw [entryAt, show (⟨g.service, g.entries, kn⟩ : Ledger).entries[j]? = some g.entries[j] from List.getElem?_eq_getElem hj]
  simp only [Bool.and_eq_true] at this ⊢
  exact ⟨this.1, hk _ this.2.1, this.2.2⟩
theorem entries_more {g : Ledger} {x : Entry} {kn : List Int} (h : entriesB g = true) (hk : ∀ k, g.known.contains k = true → kn.contains k = true) (hx : keyB x.key = true) (hn : g.known.contains x.key = false) (hc : kn.contains x.key = true)
    (hd : deedB g.service x.op x.who x.n = true) : entriesB ⟨g.service, g.entries ++ [x], kn⟩ = true := by
  refine rng_yes fun j hj => ?_
  replace hj : j < (g.entries ++ [x]).length := hj
  rw [List.length_append, List.length_singleton] at hj
  rcases Nat.lt_or_ge j g.entries.length with hlt | hge
  · have := rng_at h hlt
    rw [entryAt, List.getElem?_eq_getElem hlt] at this
    rw [entryAt, show (⟨g.service, g.entries ++ [x], kn⟩ : Ledger).entries[j]? = some g.entries[j] from by rw [List.getElem?_append_left hlt, List.getElem?_eq_getElem hlt]]
    simp only [Bool.and_eq_true] at this ⊢
    refine ⟨this.1, hk _ this.2.1, ?_, this.2.2.2⟩
    rw [List.take_append_of_le_length (by omega)]
    exact this.2.2.1
  · have hje : j = g.entries.length := by omega
    subst hje
    rw [entryAt, show (⟨g.service, g.entries ++ [x], kn⟩ : Ledger).entries[g.entries.length]? = some x from by rw [List.getElem?_append_right (Nat.le_refl _), Nat.sub_self]; rfl]
    simp only [Bool.and_eq_true, Bool.not_eq_true', List.any_eq_false]
    refine ⟨hx, hc, fun y hy => ?_, hd⟩
    rw [List.take_append_of_le_length (Nat.le_refl _), List.take_length] at hy
    have := entry_known h hy
    simp only [beq_iff_eq]
    intro e
    rw [e, hn] at this
    cases this
structure Did (g : Ledger) (x : Entry) (no : Bool) (d : Ledger × Int × Int) : Prop where
  err : d.2.2 = 0
  may : ledgerB d.1 = true
  sv : d.1.service = g.service
  keep : ∀ k, g.known.contains k = true → d.1.known.contains k = true
  kl : d.1.known.length ≤ g.known.length + 1
  has : d.2.1 = 0 → d.1.known.contains x.key = true
  en : d.1.entries = g.entries ∨ (d.1.entries = g.entries ++ [x] ∧ no = false ∧ g.known.contains x.key = false)
theorem may_of {g : Ledger} (h1 : 1 ≤ g.service ∧ g.service ≤ 4) (h2 : g.known.length ≤ 400) (h3 : knownB g.known = true) (h4 : entriesB g = true) (h5 : g.entries.length ≤ 200) : ledgerB g = true := by
  rw [ledgerB, svB, h3, h4]; simp [h1, h2, h5]
theorem do_did {g : Ledger} {x : Entry} {no : Bool} {out : Int} (hb : ledgerB g = true) (hk : keyB x.key = true) (hd : deedB g.service x.op x.who x.n = true) (he : g.entries.length < 200) (hl : g.known.length < 400) : Did g x no (doL g x no out) := by
  obtain ⟨hsv, _, hkn, hen, _⟩ := ledger_parts hb
  rw [doL]
  by_cases h1 : g.known.contains x.key = true
  · rw [if_pos h1]
    exact ⟨rfl, hb, rfl, fun k h => h, by simp only; omega, fun _ => h1, .inl rfl⟩
  have h1' : g.known.contains x.key = false := by simpa using h1
  rw [if_neg h1]
  by_cases h2 : out = 1 ∨ out = 2
  · rw [if_pos h2]
    exact ⟨rfl, hb, rfl, fun k h => h, by simp only; omega, fun e => by simp only at e; omega, .inl rfl⟩
  rw [if_neg h2, if_neg (by omega)]
  have hkeep : ∀ k, g.known.contains k = true → (insL g.known (posL g.known x.key) x.key).contains k = true := fun k h => by rw [ins_has, h]; rfl
  have hself : (insL g.known (posL g.known x.key) x.key).contains x.key = true := by rw [ins_has]; simp
  have hlen := ins_len (x := x.key) (posL_le g.known x.key)
  cases no with
  | true =>
    refine ⟨rfl, may_of hsv ?_ (ins_known hkn hk h1') (entries_same hen hkeep) ?_, rfl, hkeep, ?_, fun _ => hself, .inl rfl⟩
    · show (insL _ _ _).length ≤ 400; omega
    · show g.entries.length ≤ 200; omega
    · show (insL _ _ _).length ≤ _; omega
  | false =>
    refine ⟨rfl, may_of hsv ?_ (ins_known hkn hk h1') (entries_more hen hkeep hk h1' hself hd) ?_, rfl, hkeep, ?_, fun _ => hself, .inr ⟨rfl, rfl, h1'⟩⟩
    · show (insL _ _ _).length ≤ 400; omega
    · show (g.entries ++ [x]).length ≤ 200; rw [List.length_append, List.length_singleton]; omega
    · show (insL _ _ _).length ≤ _; omega
theorem done_known {g : Ledger} (h : entriesB g = true) {k : Int} (hd : doneB g.entries k = true) : g.known.contains k = true := by
  unfold doneB at hd
  split at hd
  · rename_i e hf
    have hm := List.mem_of_find?_eq_some hf
    have hk := List.find?_some hf
    have := entry_known h hm
    rw [eq_of_beq hk] at this
    exact this
  · cases hd
/-- Entries of one script: whose they are, and which way they go. -/
def Fine (a : ByteArray) (e : Entry) : Prop := e.who = wW ∧ e.n = 1 ∧ (e.back = true → ¬ e.op = a) ∧ (e.back = false → e.op = a)
def cntGo : List Entry → Int → Int
  | [], n => n
  | x :: l, n => cntGo l (if x.back then IntKind.i64.wrap (n - 1) else IntKind.i64.wrap (n + 1))
theorem cnt_go {l : List Entry} {k : Nat} {n : Int} (h : k < l.length) : cntGo (l.drop k) n = cntGo (l.drop (k + 1)) (if (l[k]).back then IntKind.i64.wrap (n - 1) else IntKind.i64.wrap (n + 1)) := by
  rw [List.drop_eq_getElem_cons h, cntGo]
theorem sum_cnt {a : ByteArray} : ∀ {l : List Entry} {n : Int}, (∀ e ∈ l, Fine a e) → sumGo a wW l n = cntGo l n
  | [], n, _ => rfl
  | x :: l, n, h => by
    obtain ⟨h1, h2, h3, h4⟩ := h x (by simp)
    rw [sumGo, cntGo, if_pos h1, h2, sum_cnt fun e he => h e (by simp [he])]
    cases hb : x.back with
    | true => rw [if_neg (h3 hb), if_pos rfl]
    | false => rw [if_pos (h4 hb), if_neg (by decide)]
structure On (sv : Int) (a : ByteArray) (i : Nat) (x : Ledger) : Prop where
  ok : x.Ok
  may : ledgerB x = true
  sv : x.service = sv
  el : x.entries.length ≤ i
  kl : x.known.length ≤ i
  fine : ∀ e ∈ x.entries, Fine a e
theorem On.goes {sv : Int} {a : ByteArray} {i : Nat} {x : Ledger} {y : Entry} {no : Bool} {d : Ledger × Int × Int} (h : On sv a i x) (hy : okS y.op ∧ okS y.who) (hf : Fine a y) (hi : i < 24) (hd : Did x y no d) : On sv a (i + 1) d.1 := by
  have hel := h.el
  have hkl := h.kl
  have hk := hd.kl
  rcases hd.en with he | ⟨he, _, _⟩
  · exact ⟨⟨by rw [he]; exact h.ok.el, by omega, fun e hm => h.ok.each e (he ▸ hm)⟩, hd.may, hd.sv.trans h.sv, by rw [he]; omega, by omega, fun e hm => h.fine e (he ▸ hm)⟩
  · have hl : d.1.entries.length = x.entries.length + 1 := by rw [he]; simp
    refine ⟨⟨by omega, by omega, fun e hm => ?_⟩, hd.may, hd.sv.trans h.sv, by omega, by omega, fun e hm => ?_⟩
    · rw [he, List.mem_append, List.mem_singleton] at hm
      rcases hm with hm | rfl
      · exact h.ok.each e hm
      · exact ⟨hy.1, hy.2⟩
    · rw [he, List.mem_append, List.mem_singleton] at hm
      rcases hm with hm | rfl
      · exact h.fine e hm
      · exact hf
end Go.Rx
namespace Go.Proofs.Ytooiiihaijpbaaa.Rx
open Go.Rx Go.Proofs Go.Proofs.Ytooiiihaijpbaaa.RxH

theorem callP_con (g : Ledger) (h : g.Ok) (k : Int) (op who : ByteArray) (n out : Int) : Con P 16 [encLedger g, I k, Sx op, Sx who, I n, I out] (ledP (callL g k op who n out)) [] := by
  refine Con.stays (call_con g h k op who n out) (by show 2 ≤ 3; omega) ?_
  conv => whnf
  refine ⟨List.length_map .., ?_⟩
  conv => whnf
  refine ⟨List.length_map .., ?_⟩
  conv => whnf
  exact finLP ⟨rfl⟩
theorem undoP_con (g : Ledger) (h : g.Ok) (k of' : Int) (op who : ByteArray) (n out : Int) : Con P 17 [encLedger g, I k, I of', Sx op, Sx who, I n, I out] (ledP (undoL g k of' op who n out)) [] := by
  refine Con.stays (undo_con g h k of' op who n out) (by show 2 ≤ 3; omega) ?_
  conv => whnf
  refine ⟨List.length_map .., ?_⟩
  conv => whnf
  refine ⟨List.length_map .., ?_⟩
  conv => whnf
  exact finLP ⟨rfl⟩
end Go.Proofs.Ytooiiihaijpbaaa.Rx
