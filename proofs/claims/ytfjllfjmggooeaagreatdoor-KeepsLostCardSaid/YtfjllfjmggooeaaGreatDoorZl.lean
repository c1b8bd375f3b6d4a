/- The texts of the proof, part 12, in order. -/
import Derived.Test.YtfjllfjmggooeaaGreatDoorZk
import Derived.Test.YtfjllfjmggooeaaGreatDoorZj
import Derived.Test.YtfjllfjmggooeaaGreatDoorZi
import Derived.Test.YtfjllfjmggooeaaGreatDoorZh
/- Effects and the journal: what a step keeps. -/
set_option linter.unusedVariables false
set_option linter.unusedSimpArgs false
namespace Go.Rx
theorem mem_set_idx {α : Type} {l : List α} {i : Nat} {x u : α} (h : u ∈ l.set i x) : u = x ∨ ∃ k, k ≠ i ∧ l[k]? = some u := by
  obtain ⟨k, hk, e⟩ := List.mem_iff_getElem.1 h
  have h2 : (l.set i x)[k]? = some u := by rw [List.getElem?_eq_getElem hk, e]
  by_cases hki : k = i
  · subst hki
    have hl : k < l.length := by rw [List.length_set] at hk; exact hk
    rw [List.getElem?_set_self hl] at h2
    cases h2
    exact .inl rfl
  · rw [List.getElem?_set_ne (Ne.symm hki)] at h2
    exact .inr ⟨k, hki, h2⟩
structure Eff (w : Wd) : Prop where
  keys : Keys w.ledgers (sagasL w.lives)
  snd : ∀ v ∈ w.lives, Snd w.ledgers v.saga ∧ (¬ v.write.kind = 0 → Snd w.ledgers (nextS v.saga v.write))
  knw : ∀ v ∈ w.lives, Knw w.ledgers v.saga
theorem Snd.moved {l l' : List Ledger} {s : Saga} (h : Snd l s) (h1 : ∀ n, did l' s n = did l s n) (h2 : ∀ n, und l' s n = und l s n) (h3 : ∀ n, knu l' s n = knu l s n) : Snd l' s :=
  ⟨fun n => by rw [h1]; exact h.a n, fun n => by rw [h1, h2]; exact h.b n, fun n => by rw [h1]; exact h.c n, fun n => by rw [h1, h2]; exact h.d n, fun e n => by rw [h1, h2]; exact h.e e n, fun e n => by rw [h1, h2]; exact h.f e n, fun n => by rw [h2]; exact h.g n, fun n => by rw [h3]; exact h.h n⟩
theorem Knw.moved {l l' : List Ledger} {s : Saga} (h : Knw l s) (h1 : ∀ n, did l' s n = did l s n) (h2 : ∀ n, und l' s n = und l s n) (h3 : ∀ n, knc l' s n = knc l s n) (h4 : ∀ n, knu l' s n = knu l s n) : Knw l' s :=
  ⟨fun n => by rw [h1, h3]; exact h.k1 n, fun n => by rw [h1, h2, h4]; exact h.k2 n⟩
theorem keys_set {l : List Ledger} {L : List Live} {i : Nat} {v x : Live} (h : Keys l (sagasL L)) (hi : L[i]? = some v) (h1 : x.saga.id = v.saga.id) (h2 : x.saga.steps = v.saga.steps) : Keys l (sagasL (L.set i x)) := by
  refine h.same fun k s hs => ?_
  rw [sagas_set]
  by_cases e : k = i
  · subst e
    have hl := (List.getElem?_eq_some_iff.1 hs).1
    rw [sagas_at hi] at hs
    cases hs
    exact ⟨x.saga, List.getElem?_set_self hl, h1, h2⟩
  · exact ⟨s, by rw [List.getElem?_set_ne (Ne.symm e)]; exact hs, rfl, rfl⟩
theorem LInv.fits {v : Live} {tb : Int} (h : LInv v tb) (hk : ¬ v.write.kind = 0) : recB v.write = true ∧ fitsB v.saga v.write = true ∧ v.write.id = v.saga.id ∧ ¬ v.write.kind = 1 := by
  rcases h.wr with e | e
  · exact absurd (h.zero.2 e.1) hk
  · have hf := e.2.2
    simp only [fitsL, Bool.and_eq_true, beq_iff_eq] at hf
    exact ⟨e.2.1, hf.2.2, hf.1, e.1⟩
theorem Ans.same {c : Int} {v x : Live} {a : Int} (h : Ans c v a x) : x.saga = v.saga ∧ x.put = v.put := by cases h <;> exact ⟨rfl, rfl⟩
theorem Eff.step {w W : Wd} {tb tb' : Int} (hw : WInv w tb) (ht : tb ≤ 4611686018427387902) (hW : WInv W tb') (h : Eff w) (hs : Went w W) : Eff W := by
  cases hs with
  | sync i v hi hst hp hk hr hf =>
    have hmem := List.mem_of_getElem? hi
    have hk0 : ¬ v.write.kind = 0 := by have := rec_kind hr; omega
    have hkeep := next_keep v.saga v.write
    refine ⟨keys_set h.keys hi (next_id _ _) hkeep.2.2, fun u hu => ?_, fun u hu => ?_⟩
    · rcases mem_set_cases hu with e | e
      · rw [e]
        exact ⟨(h.snd v hmem).2 hk0, fun hk => absurd rfl hk⟩
      · exact h.snd u e
    · rcases mem_set_cases hu with e | e
      · rw [e]
        exact (h.knw v hmem).same hkeep.2.2 (next_id _ _)
      · exact h.knw u e
  | app i v hi hst hp hk hr hf hj =>
    have hmem := List.mem_of_getElem? hi
    refine ⟨keys_set h.keys hi rfl rfl, fun u hu => ?_, fun u hu => ?_⟩
    · rcases mem_set_cases hu with e | e
      · rw [e]; exact h.snd v hmem
      · exact h.snd u e
    · rcases mem_set_cases hu with e | e
      · rw [e]; exact h.knw v hmem
      · exact h.knw u e
  | dec i v k n hi hst hwz hp hc =>
    have hmem := List.mem_of_getElem? hi
    refine ⟨keys_set h.keys hi rfl rfl, fun u hu => ?_, fun u hu => ?_⟩
    · rcases mem_set_cases hu with e | e
      · rw [e]
        refine ⟨(h.snd v hmem).1, fun hk => ?_⟩
        have hx := hW.lives u hu
        rw [e] at hx
        obtain ⟨f1, f2, _⟩ := hx.fits hk
        have hsg := hw.saga hmem
        exact snd_next (h.snd v hmem).1 (parts_iff.1 hsg) (nx_of hsg f1 f2) (fun e3 => by have e3' : k = 3 := e3; omega) (fun e5 => by have e5' : k = 5 := e5; omega)
      · exact h.snd u e
    · rcases mem_set_cases hu with e | e
      · rw [e]; exact h.knw v hmem
      · exact h.knw u e
  | call i v j st g g' a hi hst hdd hwz hp hc =>
    have hmem := List.mem_of_getElem? hi
    have hsg := hw.saga hmem
    have hpt := parts_iff.1 hsg
    have hlv := hw.lives v hmem
    have hml := most_le hpt
    have hl0 := hpt.l0
    have hl1 := hpt.l1
    have ht0 := hlv.t0
    have ht1 := hlv.t1
    have ha := ans_of (c := w.clock) (v := v) (a := a) ⟨hw.c0, hw.c1⟩ ⟨ht0, by omega⟩ ⟨hl0, by omega⟩
    obtain ⟨s1, s2, s3, s4⟩ := call_snd hw hc hi hst (h.snd v hmem).1 (h.knw v hmem) h.keys
    have hkc := keys_call hc hi h.keys
    generalize (if (answeredL w.clock v a).2.2 = true then { (answeredL w.clock v a).1 with write := (answeredL w.clock v a).2.1 } else (answeredL w.clock v a).1) = x at ha hW ⊢
    have hsame := ha.same
    have hz : v.write.kind = 0 := by rw [hwz]; rfl
    have other : ∀ (k : Nat) (u : Live), k ≠ i → w.lives[k]? = some u → ∀ n, did (w.ledgers.set (st.service - 1).toNat g') u.saga n = did w.ledgers u.saga n ∧ und (w.ledgers.set (st.service - 1).toNat g') u.saga n = und w.ledgers u.saga n ∧ knc (w.ledgers.set (st.service - 1).toNat g') u.saga n = knc w.ledgers u.saga n ∧ knu (w.ledgers.set (st.service - 1).toNat g') u.saga n = knu w.ledgers u.saga n := fun k u hne hu n => by
      refine calls_off hw hc hmem (List.mem_of_getElem? hu) (.inl ?_)
      rw [hw.ids hi, hw.ids hu]; omega
    refine ⟨keys_set hkc hi (by rw [hsame.1]) (by rw [hsame.1]), fun u hu => ?_, fun u hu => ?_⟩
    · rcases mem_set_idx hu with e | ⟨k, hne, hk⟩
      · rw [e]
        refine ⟨by rw [hsame.1]; exact s1, fun hk => ?_⟩
        have hx := hW.lives u hu
        rw [e] at hx
        obtain ⟨f1, f2, _⟩ := hx.fits hk
        rw [hsame.1] at f2 ⊢
        refine snd_next s1 hpt (nx_of hsg f1 f2) (fun e3 => ?_) (fun e5 => ?_)
        · cases ha with
          | done q1 q2 hb =>
            have := (hc.fw hb).2
            rw [this]
            exact s3 q1 q2 hb
          | wait _ _ _ _ => have e3' : v.write.kind = 3 := e3; omega
          | gave _ _ _ => have e3' : (4 : Int) = 3 := e3; omega
          | abort _ _ => have e3' : (4 : Int) = 3 := e3; omega
          | stuck _ _ => have e3' : (6 : Int) = 3 := e3; omega
          | undone _ _ _ => have e3' : (5 : Int) = 3 := e3; omega
        · cases ha with
          | undone q1 q2 hb =>
            have := hc.bw hb
            have e : (v.saga.left - 1).toNat = j := by omega
            rw [e]
            exact s4 q1 q2 hb
          | wait _ _ _ _ => have e3' : v.write.kind = 5 := e5; omega
          | gave _ _ _ => have e3' : (4 : Int) = 5 := e5; omega
          | abort _ _ => have e3' : (4 : Int) = 5 := e5; omega
          | stuck _ _ => have e3' : (6 : Int) = 5 := e5; omega
          | done _ _ _ => have e3' : (3 : Int) = 5 := e5; omega
      · have hum := List.mem_of_getElem? hk
        have ho := other k u hne hk
        refine ⟨(h.snd u hum).1.moved (fun n => (ho n).1) (fun n => (ho n).2.1) (fun n => (ho n).2.2.2), fun hkk => ?_⟩
        have hkeep := next_keep u.saga u.write
        refine ((h.snd u hum).2 hkk).moved (fun n => ?_) (fun n => ?_) (fun n => ?_)
        · rw [did_same hkeep.2.2 (next_id _ _), did_same hkeep.2.2 (next_id _ _)]; exact (ho n).1
        · rw [und_same hkeep.2.2 (next_id _ _), und_same hkeep.2.2 (next_id _ _)]; exact (ho n).2.1
        · rw [knu_same hkeep.2.2 (next_id _ _), knu_same hkeep.2.2 (next_id _ _)]; exact (ho n).2.2.2
    · rcases mem_set_idx hu with e | ⟨k, hne, hk⟩
      · rw [e, hsame.1]; exact s2
      · have ho := other k u hne hk
        exact (h.knw u (List.mem_of_getElem? hk)).moved (fun n => (ho n).1) (fun n => (ho n).2.1) (fun n => (ho n).2.2.1) (fun n => (ho n).2.2.2)
/-! ### The journal -/
def sumR : List Saga → Int
  | [] => 0
  | s :: l => roomI s + sumR l
theorem sumR_app : ∀ (l m : List Saga), sumR (l ++ m) = sumR l + sumR m
  | [], m => by simp [sumR]
  | a :: l, m => by simp only [List.cons_append, sumR, sumR_app l m]; omega
theorem sumR_set : ∀ {l : List Saga} {i : Nat} {s x : Saga}, l[i]? = some s → sumR (l.set i x) = sumR l - roomI s + roomI x
  | [], i, s, x, h => by simp at h
  | a :: l, 0, s, x, h => by simp at h; subst h; simp only [List.set, sumR]; omega
  | a :: l, i + 1, s, x, h => by
    have := sumR_set (x := x) (show l[i]? = some s by simpa using h)
    simp only [List.set, sumR, this]; omega
theorem sumR_mem : ∀ {l : List Saga} {s : Saga}, (∀ s ∈ l, 0 ≤ roomI s) → s ∈ l → roomI s ≤ sumR l
  | a :: l, s, h, hs => by
    have h1 := h a (by simp)
    have h2 : 0 ≤ sumR l := by
      have : ∀ m : List Saga, (∀ s ∈ m, 0 ≤ roomI s) → 0 ≤ sumR m := fun m => by
        induction m with
        | nil => intro _; exact Int.le_refl _
        | cons b m ih => intro hm; have := hm b (by simp); have := ih fun s hs => hm s (by simp [hs]); simp only [sumR]; omega
      exact this l fun s hs => h s (by simp [hs])
    simp only [sumR]
    rcases List.mem_cons.1 hs with e | e
    · rw [e]; omega
    · have := sumR_mem (fun s hs => h s (by simp [hs])) e
      omega
theorem foldL_app : ∀ (a b : List Rec) (l : List Saga), foldL l (a ++ b) = (foldL l a).bind fun z => foldL z b
  | [], b, l => rfl
  | r :: a, b, l => by
    rw [List.cons_append, foldL, foldL]
    split
    · exact foldL_app a b _
    · rfl
/-- What a journal tells, live by live. -/
structure AtZ (w : Wd) (z : List Saga) : Prop where
  len : z.length = w.lives.length
  is : ∀ (i : Nat) (v : Live) (x : Saga), w.lives[i]? = some v → z[i]? = some x → x = v.saga ∨ (v.put = true ∧ x = nextS v.saga v.write)
structure JInv (w : Wd) (A : List Rec) (y : Nat) : Prop where
  good : ∀ r ∈ A, GoodR r
  le : y ≤ A.length
  tl : ∀ r ∈ A.drop y, ¬ r.kind = 1
  safe : w.file.safe = catR (A.take y)
  tail : w.file.tail = catR (A.drop y)
  pre : ∀ j, y ≤ j → j ≤ A.length → ∃ z, foldL [] (A.take j) = some z ∧ AtZ w z ∧ sumR z ≤ w.file.cap - ((catR (A.take j)).size : Int)
  full : ∀ z, foldL [] A = some z → ∀ (i : Nat) (v : Live) (x : Saga), w.lives[i]? = some v → z[i]? = some x → x = if v.put then nextS v.saga v.write else v.saga
theorem JInv.whole {w : Wd} {A : List Rec} {y : Nat} (h : JInv w A y) : ∃ z, foldL [] A = some z ∧ AtZ w z ∧ sumR z ≤ w.file.cap - ((catR A).size : Int) := by
  have := h.pre A.length h.le (Nat.le_refl _)
  rw [List.take_length] at this
  exact this
theorem JInv.size {w : Wd} {A : List Rec} {y : Nat} (h : JInv w A y) : roomF w.file = w.file.cap - ((catR A).size : Int) := by
  have e := congrArg ByteArray.size (show catR (A.take y) ++ catR (A.drop y) = catR A by rw [← catR_app, List.take_append_drop])
  rw [ByteArray.size_append] at e
  unfold roomF
  rw [h.safe, h.tail]
  omega
theorem GoodR.ok {r : Rec} (h : GoodR r) : r.Ok := recB_ok h.b
theorem JInv.sgs {w : Wd} {A : List Rec} {y : Nat} (h : JInv w A y) {j : Nat} {z : List Saga} (hz : foldL [] (A.take j) = some z) : Sgs z :=
  sgs_fold sgs_nil (fun r hr => (h.good r (List.mem_of_mem_take hr)).b) (fun r hr => (h.good r (List.mem_of_mem_take hr)).ok) hz
theorem sgs_room {z : List Saga} (h : Sgs z) : ∀ s ∈ z, 0 ≤ roomI s := fun s hs => by
  obtain ⟨i, hi, e⟩ := List.mem_iff_getElem.1 hs
  have hm := (h.sg i s (by rw [← e]; exact List.getElem?_eq_getElem hi)).may
  have hp := parts_iff.1 hm
  rw [room_eq hp]
  have := need_low hp
  split <;> omega
/-- There is room for the record that comes. -/
theorem JInv.room {w : Wd} {A : List Rec} {y : Nat} (h : JInv w A y) {i : Nat} {v : Live} (hi : w.lives[i]? = some v) (hst : v.saga.status = 0) (hp : v.put = false) (hs : sagaB v.saga = true) : 24 ≤ roomF w.file := by
  obtain ⟨z, hz, hat, hr⟩ := h.whole
  have hil : i < z.length := by rw [hat.len]; exact (List.getElem?_eq_some_iff.1 hi).1
  have hx := h.full z hz i v z[i] hi (List.getElem?_eq_getElem hil)
  rw [hp, if_neg (by decide)] at hx
  have hsg := h.sgs (j := A.length) (z := z) (by rw [List.take_length]; exact hz)
  have hm := sumR_mem (sgs_room hsg) (List.getElem_mem hil)
  have hpt := parts_iff.1 hs
  rw [hx, room_eq hpt, if_pos hst] at hm
  have := need_low hpt
  rw [h.size]
  omega
/-- Nothing that the journal tells of has turned. -/
theorem JInv.lives {w : Wd} {A : List Rec} {y : Nat} (h : JInv w A y) {i : Nat} {v x : Live} (hi : w.lives[i]? = some v) (hp : v.put = false) (hx : x.saga = v.saga) (hxp : x.put = false) {W : Wd} (hf : W.file = w.file) (hl : W.lives = w.lives.set i x) : JInv W A y := by
  have back : ∀ (k : Nat) (u : Live), W.lives[k]? = some u → (k = i ∧ u = x) ∨ w.lives[k]? = some u := fun k u hu => by
    rw [hl] at hu
    by_cases e : k = i
    · subst e
      rw [List.getElem?_set_self (List.getElem?_eq_some_iff.1 hi).1] at hu
      cases hu
      exact .inl ⟨rfl, rfl⟩
    · rw [List.getElem?_set_ne (Ne.symm e)] at hu
      exact .inr hu
  refine ⟨h.good, h.le, h.tl, by rw [hf]; exact h.safe, by rw [hf]; exact h.tail, fun j h1 h2 => ?_, fun z hz k u s hu hs => ?_⟩
  · obtain ⟨z, hz, hat, hr⟩ := h.pre j h1 h2
    refine ⟨z, hz, ⟨by rw [hl, List.length_set]; exact hat.len, fun k u s hu hs => ?_⟩, by rw [hf]; exact hr⟩
    rcases back k u hu with ⟨rfl, rfl⟩ | hu
    · rcases hat.is k v s hi hs with e | e
      · left; rw [hx]; exact e
      · rw [hp] at e; cases e.1
    · exact hat.is k u s hu hs
  · rcases back k u hu with ⟨rfl, rfl⟩ | hu
    · have := h.full z hz k v s hi hs
      rw [hp, if_neg (by decide)] at this
      rw [hxp, if_neg (by decide), hx]; exact this
    · exact h.full z hz k u s hu hs
theorem JInv.step {w W : Wd} {tb : Int} {A : List Rec} {y : Nat} (hw : WInv w tb) (ht : tb ≤ 4611686018427387902) (h : JInv w A y) (hs : Went w W) : ∃ A' y', JInv W A' y' := by
  cases hs with
  | sync i v hi hst hp hk hr hf =>
    obtain ⟨z, hz, hat, hrm⟩ := h.whole
    have hsf := sync_file hw.file
    have hsafe : w.file.safe ++ w.file.tail = catR A := by rw [h.safe, h.tail, ← catR_app, List.take_append_drop]
    have back : ∀ (k : Nat) (u : Live), (w.lives.set i ⟨nextS v.saga v.write, 0, w.clock, zRec, false⟩)[k]? = some u → (k = i ∧ u = ⟨nextS v.saga v.write, 0, w.clock, zRec, false⟩) ∨ (k ≠ i ∧ w.lives[k]? = some u) := fun k u hu => by
      by_cases e : k = i
      · subst e
        rw [List.getElem?_set_self (List.getElem?_eq_some_iff.1 hi).1] at hu
        cases hu
        exact .inl ⟨rfl, rfl⟩
      · rw [List.getElem?_set_ne (Ne.symm e)] at hu
        exact .inr ⟨e, hu⟩
    refine ⟨A, A.length, h.good, Nat.le_refl _, fun r hr => (by rw [List.drop_length] at hr; cases hr), ?_, ?_, fun j h1 h2 => ?_, fun z' hz' k u s hu hs => ?_⟩
    · show (crashP w.file w.file.tail.size).1.safe = _
      rw [hsf, List.take_length]; exact hsafe
    · show (crashP w.file w.file.tail.size).1.tail = _
      rw [hsf, List.drop_length]; rfl
    · obtain rfl : j = A.length := Nat.le_antisymm h2 h1
      rw [List.take_length]
      refine ⟨z, hz, ⟨by show z.length = (w.lives.set i _).length; rw [List.length_set]; exact hat.len, fun k u s hu hs => ?_⟩, ?_⟩
      · rcases back k u hu with ⟨rfl, rfl⟩ | ⟨_, hu⟩
        · left
          have := h.full z hz k v s hi hs
          rw [hp, if_pos rfl] at this
          exact this
        · exact hat.is k u s hu hs
      · show sumR z ≤ (crashP w.file w.file.tail.size).1.cap - _
        rw [hsf]; exact hrm
    · rcases back k u hu with ⟨rfl, rfl⟩ | ⟨_, hu⟩
      · have := h.full z' hz' k v s hi hs
        rw [hp, if_pos rfl] at this
        exact this
      · exact h.full z' hz' k u s hu hs
  | app i v hi hst hp hk hr hf hj =>
    obtain ⟨z, hz, hat, hrm⟩ := h.whole
    obtain ⟨j1, j2, j3, j4⟩ := japp_ok hj
    have hmem := List.mem_of_getElem? hi
    have hsg := hw.saga hmem
    have hid := hw.ids hi
    simp only [fitsL, Bool.and_eq_true, beq_iff_eq] at hf
    have hil : i < z.length := by rw [hat.len]; exact (List.getElem?_eq_some_iff.1 hi).1
    have hzi : z[i]? = some v.saga := by
      have := h.full z hz i v z[i] hi (List.getElem?_eq_getElem hil)
      rw [hp, if_neg (by decide)] at this
      rw [List.getElem?_eq_getElem hil, this]
    have hix : (v.write.id - 1).toNat = i := by rw [hf.1, hid]; omega
    have hg : goesB z v.write = true := by
      rw [goesB, if_neg hk, hix, hzi]
      simp [hf]
    have hstep : stepL z v.write = z.set i (nextS v.saga v.write) := by
      rw [stepL, if_neg hk, hix, hzi]
    have hfold : foldL [] (A ++ [v.write]) = some (z.set i (nextS v.saga v.write)) := by
      rw [foldL_app, hz, Option.bind_some, foldL, if_pos hg, foldL, hstep]
    have hgo := apply_goes hsg hr hf.1 hst hf.2.2
    have hgood := apply_good hsg hgo
    rw [(apply_went hsg hgo).2.2.2.2] at hgood
    have back : ∀ (k : Nat) (u : Live), (w.lives.set i { v with put := true })[k]? = some u → (k = i ∧ u = { v with put := true }) ∨ (k ≠ i ∧ w.lives[k]? = some u) := fun k u hu => by
      by_cases e : k = i
      · subst e
        rw [List.getElem?_set_self (List.getElem?_eq_some_iff.1 hi).1] at hu
        cases hu
        exact .inl ⟨rfl, rfl⟩
      · rw [List.getElem?_set_ne (Ne.symm e)] at hu
        exact .inr ⟨e, hu⟩
    have hle := h.le
    refine ⟨A ++ [v.write], y, fun r hr => ?_, by rw [List.length_append]; omega, fun r hr => ?_, ?_, ?_, fun j h1 h2 => ?_, fun z' hz' k u s hu hs => ?_⟩
    · rcases List.mem_append.1 hr with e | e
      · exact h.good r e
      · rw [List.mem_singleton.1 e]; exact j2
    · rw [List.drop_append_of_le_length hle] at hr
      rcases List.mem_append.1 hr with e | e
      · exact h.tl r e
      · rw [List.mem_singleton.1 e]; exact hk
    · show (jappP w.file v.write).1.safe = _
      rw [j3, List.take_append_of_le_length hle]; exact h.safe
    · show (jappP w.file v.write).1.tail = _
      rw [j3, List.drop_append_of_le_length hle, catR_app, catR_one, ← h.tail]
    · rcases Nat.lt_or_ge A.length j with hjl | hjl
      · obtain rfl : j = A.length + 1 := by rw [List.length_append, List.length_singleton] at h2; omega
        rw [List.take_of_length_le (by rw [List.length_append, List.length_singleton]; omega)]
        refine ⟨_, hfold, ⟨by show (z.set i _).length = (w.lives.set i _).length; rw [List.length_set, List.length_set]; exact hat.len, fun k u s hu hs => ?_⟩, ?_⟩
        · rcases back k u hu with ⟨rfl, rfl⟩ | ⟨hne, hu⟩
          · rw [List.getElem?_set_self hil] at hs
            cases hs
            exact .inr ⟨rfl, rfl⟩
          · rw [List.getElem?_set_ne (Ne.symm hne)] at hs
            exact hat.is k u s hu hs
        · show sumR (z.set i (nextS v.saga v.write)) ≤ (jappP w.file v.write).1.cap - _
          have e24 := (fr24 hr hk).2.1
          have := hgood.room
          rw [j3, sumR_set hzi, catR_app, catR_one, ByteArray.size_append, e24]
          show sumR z - roomI v.saga + roomI (nextS v.saga v.write) ≤ w.file.cap - (((catR A).size + 24 : Nat) : Int)
          omega
      · obtain ⟨z0, hz0, hat0, hr0⟩ := h.pre j h1 hjl
        rw [List.take_append_of_le_length hjl]
        refine ⟨z0, hz0, ⟨by show z0.length = (w.lives.set i _).length; rw [List.length_set]; exact hat0.len, fun k u s hu hs => ?_⟩, ?_⟩
        · rcases back k u hu with ⟨rfl, rfl⟩ | ⟨hne, hu⟩
          · rcases hat0.is k v s hi hs with e | e
            · exact .inl e
            · rw [hp] at e; cases e.1
          · exact hat0.is k u s hu hs
        · show sumR z0 ≤ (jappP w.file v.write).1.cap - _
          rw [j3]; exact hr0
    · rw [hfold] at hz'
      cases hz'
      rcases back k u hu with ⟨rfl, rfl⟩ | ⟨hne, hu⟩
      · rw [List.getElem?_set_self hil] at hs
        cases hs
        rfl
      · rw [List.getElem?_set_ne (Ne.symm hne)] at hs
        exact h.full z hz k u s hu hs
  | dec i v k n hi hst hwz hp hc => exact ⟨A, y, h.lives (x := { v with write := ⟨k, v.saga.id, n, ⟨#[]⟩, ⟨#[]⟩, []⟩ }) hi hp rfl hp rfl rfl⟩
  | call i v j st g g' a hi hst hdd hwz hp hc =>
    have hmem := List.mem_of_getElem? hi
    have hpt := parts_iff.1 (hw.saga hmem)
    have hlv := hw.lives v hmem
    have hml := most_le hpt
    have hl0 := hpt.l0
    have hl1 := hpt.l1
    have ht0 := hlv.t0
    have ht1 := hlv.t1
    have ha := (ans_of (c := w.clock) (v := v) (a := a) ⟨hw.c0, hw.c1⟩ ⟨ht0, by omega⟩ ⟨hl0, by omega⟩).same
    exact ⟨A, y, h.lives hi hp ha.1 (by rw [ha.2]; exact hp) rfl rfl⟩
end Go.Rx

/- The journal behind a crash; what goes on from there. -/
set_option linter.unusedVariables false
set_option linter.unusedSimpArgs false
namespace Go.Rx
theorem cat_both (A : List Rec) (y : Nat) : catR (A.take y) ++ catR (A.drop y) = catR A := by rw [← catR_app, List.take_append_drop]
theorem ba_ext_take (a b : ByteArray) (m : Nat) (h : m ≤ b.size) : a ++ b.extract 0 m = (a ++ b).extract 0 (a.size + m) := ba_ext (by
  rw [ba_app, ba_ex, ba_ex, ba_app, List.drop_zero, List.drop_zero, Nat.sub_zero, Nat.sub_zero, List.take_append, ba_len, List.take_of_length_le (l := a.data.toList) (by rw [ba_len]; omega), Nat.add_sub_cancel_left])
/-- What is recovered behind a crash. -/
theorem jcrash {A : List Rec} {y : Nat} {cap : Int} (hg : ∀ r ∈ A, GoodR r) (hle : y ≤ A.length) (hb : fileB ⟨catR (A.take y), catR (A.drop y), cap⟩ = true) (keep : Int) :
    ∃ m x, m ≤ A.length ∧ y ≤ m ∧ crashP ⟨catR (A.take y), catR (A.drop y), cap⟩ keep = (x, 0) ∧ x.Ok ∧ recovP x = (A.take m, ⟨catR (A.take m), ⟨#[]⟩, cap⟩, 0) ∧ fileB ⟨catR (A.take m), ⟨#[]⟩, cap⟩ = true := by
  obtain ⟨c1, c2, c3⟩ := fileB_iff.1 hb
  simp only at c1 c2 c3
  obtain ⟨k, hkk⟩ : ∃ k, k = keepI ⟨catR (A.take y), catR (A.drop y), cap⟩ keep := ⟨_, rfl⟩
  have hk : k ≤ (catR (A.drop y)).size := by rw [hkk]; unfold keepI; simp only; omega
  have ec := congrArg ByteArray.size (cat_both A y)
  rw [ByteArray.size_append] at ec
  obtain ⟨n, hn⟩ : ∃ n, n = (catR (A.take y)).size + k := ⟨_, rfl⟩
  have hnl : n ≤ (catR A).size := by omega
  have hx : crashF ⟨catR (A.take y), catR (A.drop y), cap⟩ k = ⟨(catR A).extract 0 n, ⟨#[]⟩, cap⟩ := by
    rw [crashF]
    have : catR (A.take y) ++ (catR (A.drop y)).extract 0 k = (catR A).extract 0 n := by rw [ba_ext_take _ _ _ hk, cat_both, hn]
    simp only [this]
  have hxs : ((catR A).extract 0 n).size = n := by rw [ByteArray.size_extract]; omega
  obtain ⟨h1, h2⟩ := scan_cut hg hnl
  obtain ⟨t, h3, h4, h5⟩ := cut_cat hg hnl
  have hm := whole_le A n
  have hy : y ≤ wholeN A n := whole_ge hle (by omega)
  generalize wholeN A n = m at h1 h2 h3 h5 hm hy
  have hcut : ((catR A).extract 0 n).extract 0 (catR (A.take m)).size = catR (A.take m) := by rw [h3]; exact ba_left _ _
  have hms : (catR (A.take m)).size ≤ n := by
    have := congrArg ByteArray.size h3
    rw [ByteArray.size_append, hxs] at this
    omega
  have hb1 : fileB ⟨(catR A).extract 0 n, ⟨#[]⟩, cap⟩ = true := fileB_iff.2 ⟨c1, c2, by show (((catR A).extract 0 n).size : Int) + ((0 : Nat) : Int) ≤ cap; omega⟩
  have hb2 : fileB ⟨catR (A.take m), ⟨#[]⟩, cap⟩ = true := fileB_iff.2 ⟨c1, c2, by show ((catR (A.take m)).size : Int) + ((0 : Nat) : Int) ≤ cap; omega⟩
  refine ⟨m, ⟨(catR A).extract 0 n, ⟨#[]⟩, cap⟩, hm, hy, by rw [crashP, if_pos hb, ← hkk, hx], file_ok hb1, ?_, hb2⟩
  rw [recovP, if_pos hb1, if_pos rfl]
  simp only [h1, h2, hcut]
/-! ### Nothing goes back -/
structure Mono (a b : Saga) : Prop where
  id : b.id = a.id
  key : b.key = a.key
  steps : b.steps = a.steps
  ended : ¬ a.status = 0 → b = a
  done : a.done ≤ b.done
  back : a.back = true → b.back = true
  left : a.back = true → b.left ≤ a.left
theorem Mono.refl (a : Saga) : Mono a a := ⟨rfl, rfl, rfl, fun _ => rfl, Int.le_refl _, fun h => h, fun _ => Int.le_refl _⟩
theorem Mono.trans {a b c : Saga} (h : Mono a b) (k : Mono b c) : Mono a c := by
  refine ⟨k.id.trans h.id, k.key.trans h.key, k.steps.trans h.steps, fun e => ?_, Int.le_trans h.done k.done, fun e => k.back (h.back e), fun e => Int.le_trans (k.left (h.back e)) (h.left e)⟩
  have := h.ended e
  subst this
  exact k.ended e
theorem mono_next {s : Saga} {r : Rec} (hs : sagaB s = true) (hr : recB r = true) (hid : r.id = s.id) (hst : s.status = 0) (hf : fitsB s r = true) : Mono s (nextS s r) := by
  have hgo := apply_goes hs hr hid hst hf
  have hg := apply_good hs hgo
  rw [(apply_went hs hgo).2.2.2.2] at hg
  have hk := next_keep s r
  exact ⟨next_id _ _, hk.1, hk.2.2, fun e => absurd hst e, hg.d0, hg.bk, hg.lf⟩
structure MonoW (w W : Wd) : Prop where
  len : w.lives.length ≤ W.lives.length
  is : ∀ (i : Nat) (v : Live), w.lives[i]? = some v → ∃ x, W.lives[i]? = some x ∧ Mono v.saga x.saga
theorem MonoW.refl (w : Wd) : MonoW w w := ⟨Nat.le_refl _, fun i v h => ⟨v, h, Mono.refl _⟩⟩
theorem MonoW.trans {a b c : Wd} (h : MonoW a b) (k : MonoW b c) : MonoW a c :=
  ⟨Nat.le_trans h.len k.len, fun i v hv => by
    obtain ⟨x, hx, m1⟩ := h.is i v hv
    obtain ⟨y, hy, m2⟩ := k.is i x hx
    exact ⟨y, hy, m1.trans m2⟩⟩
theorem mono_set {w W : Wd} {i : Nat} {v x : Live} (hi : w.lives[i]? = some v) (hl : W.lives = w.lives.set i x) (hm : Mono v.saga x.saga) : MonoW w W := by
  refine ⟨by rw [hl, List.length_set]; exact Nat.le_refl _, fun k u hu => ?_⟩
  rw [hl]
  by_cases e : k = i
  · subst e
    rw [hi] at hu
    cases hu
    exact ⟨x, List.getElem?_set_self (List.getElem?_eq_some_iff.1 hi).1, hm⟩
  · exact ⟨u, by rw [List.getElem?_set_ne (Ne.symm e)]; exact hu, Mono.refl _⟩
theorem mono_step {w W : Wd} {tb : Int} (hw : WInv w tb) (ht : tb ≤ 4611686018427387902) (hs : Went w W) : MonoW w W := by
  cases hs with
  | sync i v hi hst hp hk hr hf =>
    simp only [fitsL, Bool.and_eq_true, beq_iff_eq] at hf
    exact mono_set (x := ⟨nextS v.saga v.write, 0, w.clock, zRec, false⟩) hi rfl (mono_next (hw.saga (List.mem_of_getElem? hi)) hr hf.1 hst hf.2.2)
  | app i v hi hst hp hk hr hf hj => exact mono_set (x := { v with put := true }) hi rfl (Mono.refl _)
  | dec i v k n hi hst hwz hp hc => exact mono_set (x := { v with write := ⟨k, v.saga.id, n, ⟨#[]⟩, ⟨#[]⟩, []⟩ }) hi rfl (Mono.refl _)
  | call i v j st g g' a hi hst hdd hwz hp hc =>
    have hmem := List.mem_of_getElem? hi
    have hpt := parts_iff.1 (hw.saga hmem)
    have hlv := hw.lives v hmem
    have hml := most_le hpt
    have hl0 := hpt.l0
    have hl1 := hpt.l1
    have ht0 := hlv.t0
    have ht1 := hlv.t1
    have ha := (ans_of (c := w.clock) (v := v) (a := a) ⟨hw.c0, hw.c1⟩ ⟨ht0, by omega⟩ ⟨hl0, by omega⟩).same
    exact mono_set (w := w) (W := { w with ledgers := w.ledgers.set (st.service - 1).toNat g', taken := w.taken + 1, lives := w.lives.set i (if (answeredL w.clock v a).2.2 then { (answeredL w.clock v a).1 with write := (answeredL w.clock v a).2.1 } else (answeredL w.clock v a).1) }) hi rfl (by rw [ha.1]; exact Mono.refl _)
/-! ### All that is kept -/
structure KInv (w : Wd) (tb : Int) : Prop where
  inv : WInv w tb
  eff : Eff w
  jrn : ∃ A y, JInv w A y
theorem KInv.goes {w : Wd} {tb : Int} (h : KInv w tb) (ht : tb ≤ 4611686018427387902) : (stepW w).2 = 0 ∨ dueI w = none := by
  cases hd : dueI w with
  | none => exact .inr rfl
  | some i =>
    left
    obtain ⟨A, y, hj⟩ := h.jrn
    obtain ⟨v, hi, hb⟩ := dueI_some hd
    rw [stepW_at hd hi]
    have hst := dueB_st hb
    have hmem : v ∈ w.lives := List.mem_of_getElem? hi
    have hl := h.inv.lives v hmem
    have hs := h.inv.saga hmem
    have hm : (moveW w v).2.2 = 0 := by
      by_cases hk : v.write.kind = 0
      · have e : moveW w v = nextW w v := by rw [moveW, if_neg (by rw [hk]; decide)]
        rw [e]
        cases h1 : (!v.saga.back && (v.saga.done == (v.saga.steps.length : Int))) with
        | true => rw [nextW]; simp only; rw [if_pos h1]
        | false =>
        cases h2 : (v.saga.back && (v.saga.left == 0)) with
        | true => rw [nextW]; simp only; rw [if_neg (by rw [h1]; decide), if_pos h2]
        | false =>
        cases h3 : (!v.saga.back && !v.saga.out) with
        | true => rw [nextW]; simp only; rw [if_neg (by rw [h1]; decide), if_neg (by rw [h2]; decide), if_pos h3]
        | false =>
        have hdn : (doneAt w v.saga).2.2 = 0 := by
          obtain ⟨j, hjj⟩ := call_at hs hst h1 h2 h3
          exact h.inv.noFull h.eff.keys hjj hi
        rw [nextW]; simp only; rw [if_neg (by rw [h1]; decide), if_neg (by rw [h2]; decide), if_neg (by rw [h3]; decide), if_pos hdn]
      · have e : moveW w v = writtenW w v := by rw [moveW, if_pos (by simpa using hk)]
        rw [e]
        obtain ⟨f1, f2, f3, f4⟩ := hl.fits hk
        cases hp : v.put with
        | true => rw [writtenW, if_pos hp]
        | false =>
          have hj2 := (japp24 h.inv.file f1 f4 (hj.room hi hst hp hs)).1
          rw [writtenW, if_neg (by rw [hp]; decide), if_pos hj2]
    rw [if_pos hm]
theorem KInv.step {w : Wd} {tb : Int} (h : KInv w tb) (ht : tb ≤ 4611686018427387902) (he : (stepW w).2 = 0) : KInv (stepW w).1 (tb + 1) ∧ MonoW w (stepW w).1 := by
  have hw := h.inv.went ht he
  have hs := h.inv.step ht he
  obtain ⟨A, y, hj⟩ := h.jrn
  exact ⟨⟨hs, h.eff.step h.inv ht hs hw, hj.step h.inv ht hw⟩, mono_step h.inv ht hw⟩
theorem KInv.run : ∀ (k : Nat) {w : Wd} {tb : Int}, KInv w tb → tb + k ≤ 4611686018427387902 → KInv (goW k w).1 (tb + k) ∧ MonoW w (goW k w).1 ∧ okGo k w = true
  | 0, w, tb, h, _ => ⟨⟨h.inv.mono (by omega), h.eff, h.jrn⟩, MonoW.refl _, rfl⟩
  | k + 1, w, tb, h, ht => by
    rcases h.goes (by omega) with e | e
    · have h1 := h.step (by omega) e
      have ih := KInv.run k h1.1 (by omega)
      rw [goW_go e]
      refine ⟨⟨ih.1.inv.mono (by omega), ih.1.eff, ih.1.jrn⟩, h1.2.trans ih.2.1, ?_⟩
      rw [okGo, e, ih.2.2]; simp
    · rw [goW_end e]
      refine ⟨⟨h.inv.mono (by omega), h.eff, h.jrn⟩, MonoW.refl _, ?_⟩
      rw [okGo, e]; rfl
end Go.Rx

/- All that is kept: begins and crashes. -/
set_option linter.unusedVariables false
set_option linter.unusedSimpArgs false
namespace Go.Rx
def freshL (c : Int) (z : List Saga) : List Live := z.map fun s => ⟨s, 0, c, zRec, false⟩
def crashWd (w : Wd) (keep : Int) : Wd × Int :=
  if worldB w then
    (if (recovP (crashP w.file keep).1).2.2 = 0 then
      (if (ofP (recovP (crashP w.file keep).1).1).2 = 0 then ({ w with file := (recovP (crashP w.file keep).1).2.1, lives := freshL w.clock (ofP (recovP (crashP w.file keep).1).1).1 }, 0)
       else (zWd, (ofP (recovP (crashP w.file keep).1).1).2))
     else (zWd, (recovP (crashP w.file keep).1).2.2))
  else (zWd, 1)
theorem fresh_sagas (c : Int) (z : List Saga) : sagasL (freshL c z) = z := by rw [sagasL, freshL, List.map_map]; exact List.map_id _
theorem fresh_at {c : Int} {z : List Saga} {i : Nat} {v : Live} (h : (freshL c z)[i]? = some v) : z[i]? = some v.saga ∧ v = ⟨v.saga, 0, c, zRec, false⟩ := by
  rw [freshL, List.getElem?_map, Option.map_eq_some_iff] at h
  obtain ⟨s, hs, rfl⟩ := h
  exact ⟨hs, rfl⟩
theorem WInv.sgs {w : Wd} {tb : Int} (h : WInv w tb) : Sgs (sagasL w.lives) := sgs_tog (fun s hs => by
  rw [sagasL, List.mem_map] at hs
  obtain ⟨v, hv, rfl⟩ := hs
  exact sagaB_ok (h.saga hv)) h.tog
/-- What the journal tells of a live is what it is, or what it will be. -/
theorem KInv.told {w : Wd} {tb : Int} (h : KInv w tb) {i : Nat} {v : Live} {x : Saga} (hi : w.lives[i]? = some v) (hx : x = v.saga ∨ (v.put = true ∧ x = nextS v.saga v.write)) : Mono v.saga x ∧ Snd w.ledgers x ∧ Knw w.ledgers x ∧ roomI x ≤ roomI v.saga := by
  have hmem := List.mem_of_getElem? hi
  have hs := h.eff.snd v hmem
  have hk := h.eff.knw v hmem
  have hsg := h.inv.saga hmem
  rcases hx with rfl | ⟨hp, rfl⟩
  · exact ⟨Mono.refl _, hs.1, hk, Int.le_refl _⟩
  · have hl := h.inv.lives v hmem
    have hk0 : ¬ v.write.kind = 0 := fun e => by
      rcases hl.wr with q | q
      · rw [q.2] at hp; cases hp
      · have := rec_kind q.2.1; omega
    have hf : recB v.write = true ∧ fitsL v = true := by
      rcases hl.wr with q | q
      · rw [q.2] at hp; cases hp
      · exact ⟨q.2.1, q.2.2⟩
    have hf2 := hf.2
    simp only [fitsL, Bool.and_eq_true, beq_iff_eq] at hf2
    have hgo := apply_goes hsg hf.1 hf2.1 hf2.2.1 hf2.2.2
    have hg := apply_good hsg hgo
    rw [(apply_went hsg hgo).2.2.2.2] at hg
    have hkeep := next_keep v.saga v.write
    exact ⟨mono_next hsg hf.1 hf2.1 hf2.2.1 hf2.2.2, hs.2 hk0, hk.same hkeep.2.2 (next_id _ _), by have := hg.room; omega⟩
theorem KInv.crash {w : Wd} {tb : Int} (h : KInv w tb) (hb : worldB w = true) (ht : 0 ≤ tb) (keep : Int) : (crashWd w keep).2 = 0 ∧ KInv (crashWd w keep).1 tb ∧ MonoW w (crashWd w keep).1 := by
  obtain ⟨A, y, hj⟩ := h.jrn
  have hfile : w.file = ⟨catR (A.take y), catR (A.drop y), w.file.cap⟩ := by rw [← hj.safe, ← hj.tail]
  have hfb := h.inv.file
  rw [hfile] at hfb
  obtain ⟨m, x, m1, m2, m3, m4, m5, m6⟩ := jcrash hj.good hj.le hfb keep
  rw [← hfile] at m3
  obtain ⟨z, z1, z2, z3⟩ := hj.pre m m2 m1
  have hall : (A.take m).all recB = true := List.all_eq_true.2 fun r hr => (hj.good r (List.mem_of_mem_take hr)).b
  have hof : ofP (A.take m) = (z, 0) := by rw [ofP, if_pos hall, z1]
  have e : crashWd w keep = ({ w with file := ⟨catR (A.take m), ⟨#[]⟩, w.file.cap⟩, lives := freshL w.clock z }, 0) := by
    rw [crashWd, if_pos hb, m3, m5, if_pos rfl, hof, if_pos rfl]
  rw [e]
  have hsg := hj.sgs z1
  have told : ∀ (i : Nat) (s : Saga), z[i]? = some s → ∃ v, w.lives[i]? = some v ∧ (Mono v.saga s ∧ Snd w.ledgers s ∧ Knw w.ledgers s ∧ roomI s ≤ roomI v.saga) := fun i s hs => by
    have hil : i < w.lives.length := by rw [← z2.len]; exact (List.getElem?_eq_some_iff.1 hs).1
    exact ⟨w.lives[i], List.getElem?_eq_getElem hil, h.told (List.getElem?_eq_getElem hil) (z2.is i _ s (List.getElem?_eq_getElem hil) hs)⟩
  have fresh : ∀ v ∈ freshL w.clock z, ∃ i, z[i]? = some v.saga ∧ v = ⟨v.saga, 0, w.clock, zRec, false⟩ := fun v hv => by
    obtain ⟨i, hi⟩ := List.getElem?_of_mem hv
    exact ⟨i, fresh_at hi⟩
  refine ⟨rfl, ⟨⟨h.inv.c0, h.inv.c1, h.inv.k0, h.inv.k1, h.inv.ol, h.inv.ob, m6, h.inv.ledgers, ?_, fun v hv => ?_⟩, ⟨?_, fun v hv => ?_, fun v hv => ?_⟩, A.take m, m, ?_⟩, ⟨?_, fun i v hi => ?_⟩⟩
  · show togB (sagasL (freshL w.clock z)) = true
    rw [fresh_sagas]; exact tog_sgs hsg
  · obtain ⟨i, _, e⟩ := fresh v hv
    rw [e]
    exact ⟨Int.le_refl 0, ht, h.inv.c0, by have := h.inv.c1; show w.clock ≤ _; omega, .inl ⟨rfl, rfl⟩⟩
  · show Keys w.ledgers (sagasL (freshL w.clock z))
    rw [fresh_sagas]
    refine h.eff.keys.same fun i s hs => ?_
    have hil : i < z.length := by rw [z2.len]; have := (List.getElem?_eq_some_iff.1 hs).1; rwa [sagasL, List.length_map] at this
    obtain ⟨v, hv, ⟨t1, _⟩⟩ := told i z[i] (List.getElem?_eq_getElem hil)
    rw [sagas_at hv] at hs
    cases hs
    exact ⟨z[i], List.getElem?_eq_getElem hil, t1.id, t1.steps⟩
  · obtain ⟨i, hz, e⟩ := fresh v hv
    obtain ⟨u, _, t⟩ := told i v.saga hz
    refine ⟨t.2.1, fun hk => ?_⟩
    rw [e] at hk
    exact absurd rfl hk
  · obtain ⟨i, hz, e⟩ := fresh v hv
    obtain ⟨u, _, t⟩ := told i v.saga hz
    exact t.2.2.1
  · have htt : (A.take m).take m = A.take m := by rw [List.take_take, Nat.min_self]
    have hdd : (A.take m).drop m = [] := List.drop_of_length_le (by rw [List.length_take]; omega)
    refine ⟨fun r hr => hj.good r (List.mem_of_mem_take hr), by rw [List.length_take]; omega, fun r hr => (by rw [hdd] at hr; cases hr), by rw [htt], by rw [hdd]; rfl, fun j j1 j2 => ?_, fun z' hz' i v s hv hs => ?_⟩
    · have hjm : j = m := by rw [List.length_take] at j2; omega
      subst hjm
      rw [htt]
      refine ⟨z, z1, ⟨by show z.length = (freshL w.clock z).length; rw [freshL, List.length_map], fun i v s hv hs => ?_⟩, z3⟩
      have := (fresh_at hv).1
      rw [hs] at this
      exact .inl (Option.some.inj this)
    · rw [z1] at hz'
      cases hz'
      obtain ⟨f1, f2⟩ := fresh_at hv
      rw [hs] at f1
      rw [f2]
      exact Option.some.inj f1
  · show w.lives.length ≤ (freshL w.clock z).length
    rw [freshL, List.length_map, z2.len]; exact Nat.le_refl _
  · have hil : i < z.length := by rw [z2.len]; exact (List.getElem?_eq_some_iff.1 hi).1
    obtain ⟨u, hu, t⟩ := told i z[i] (List.getElem?_eq_getElem hil)
    rw [hi] at hu
    cases hu
    refine ⟨⟨z[i], 0, w.clock, zRec, false⟩, ?_, t.1⟩
    show (freshL w.clock z)[i]? = _
    rw [freshL, List.getElem?_map, List.getElem?_eq_getElem hil]; rfl
/-! ### A saga begins -/
theorem begins_parts {r : Rec} (h : beginsB r = true) : r.kind = 1 ∧ recB r = true := by
  rw [beginsB, Bool.and_eq_true] at h
  exact ⟨eq_of_beq h.1, h.2⟩
theorem begin_newS {r : Rec} (h : beginsB r = true) : (beginS r).1 = newS r := by
  obtain ⟨h1, h2⟩ := begins_parts h
  rw [beginS, if_neg (by rw [h1, h2]; decide)]; rfl
theorem roomGo_eq : ∀ {l : List Live} {n : Int}, (∀ v ∈ l, 0 ≤ roomI v.saga ∧ roomI v.saga ≤ 408) → 0 ≤ n → n + 408 * l.length ≤ 1000000 → roomGo l n = n + sumR (sagasL l)
  | [], n, _, _, _ => by simp [roomGo, sagasL, sumR]
  | v :: l, n, h, h0, hn => by
    have h1 := h v (by simp)
    simp only [List.length_cons] at hn
    have e : IntKind.i64.wrap (n + roomI v.saga) = n + roomI v.saga := wrapI (by omega)
    rw [roomGo, e, roomGo_eq (fun u hu => h u (by simp [hu])) (by omega) (by omega)]
    show n + roomI v.saga + sumR (sagasL l) = n + (roomI v.saga + sumR (sagasL l))
    omega
theorem room_bd {s : Saga} (h : sagaB s = true) : 0 ≤ roomI s ∧ roomI s ≤ 408 := by
  have hp := parts_iff.1 h
  have := need_low hp
  rw [room_eq hp]
  split <;> omega
theorem sumR_le : ∀ {a b : List Saga}, a.length = b.length → (∀ (i : Nat) (x s : Saga), a[i]? = some x → b[i]? = some s → roomI x ≤ roomI s) → sumR a ≤ sumR b
  | [], [], _, _ => Int.le_refl _
  | x :: a, s :: b, hl, h => by
    have h0 := h 0 x s rfl rfl
    have := sumR_le (a := a) (b := b) (by simpa using hl) fun i y t hy ht => h (i + 1) y t (by simpa using hy) (by simpa using ht)
    simp only [sumR]; omega
  | [], _ :: _, hl, _ => by simp at hl
  | _ :: _, [], hl, _ => by simp at hl
/-- No key is a new saga's. -/
theorem none_new {w : Wd} {tb : Int} (h : WInv w tb) (hK : Keys w.ledgers (sagasL w.lives)) {s : Saga} (hid : s.id = ((w.lives.length + 1 : Nat) : Int)) (hs : (1 ≤ s.id ∧ s.id ≤ 20) ∧ s.steps.length ≤ 5) (n : Nat) :
    did w.ledgers s n = false ∧ und w.ledgers s n = false ∧ knc w.ledgers s n = false ∧ knu w.ledgers s n = false := by
  have hne : ∀ {sv k : Int} {b : Bool}, Owns (sagasL w.lives) sv k b → n < s.steps.length → k ≠ callKey s.id n ∧ k ≠ undoKey s.id n := fun {sv k b} ⟨i, u, m, st, h1, h2, _, h4⟩ hn => by
    have hu := h.sgL i u h1
    have hm := (List.getElem?_eq_some_iff.1 h2).1
    have hui : u.id = ((i + 1 : Nat) : Int) := by
      rw [sagasL, List.getElem?_map, Option.map_eq_some_iff] at h1
      obtain ⟨v, hv, rfl⟩ := h1
      exact h.ids hv
    have hil : i < w.lives.length := by have := (List.getElem?_eq_some_iff.1 h1).1; rwa [sagasL, List.length_map] at this
    have k4 := keys_ne hu.1 hs.1 (show m < 5 by omega) (show n < 5 by omega) (.inl (by omega))
    rcases h4 with ⟨e, _⟩ | ⟨e, _⟩ <;> rw [e]
    · exact ⟨k4.1, k4.2.1⟩
    · exact ⟨k4.2.2.1, k4.2.2.2⟩
  have each : ∀ p : Ledger → Bool, (∀ g ∈ w.ledgers, n < s.steps.length → p g = false) → atLed w.ledgers s n p = false := fun p hp => by
    unfold atLed
    cases hst : s.steps[n]? with
    | none => rfl
    | some st =>
      simp only
      cases hg : w.ledgers[(st.service - 1).toNat]? with
      | none => rfl
      | some g => exact hp g (List.mem_of_getElem? hg) (List.getElem?_eq_some_iff.1 hst).1
  refine ⟨each _ fun g hg hn => ?_, each _ fun g hg hn => ?_, each _ fun g hg hn => ?_, each _ fun g hg hn => ?_⟩
  · rw [hasK, List.any_eq_false]
    intro e he
    have := (hne (hK.en g hg e he) hn).1
    simpa using this
  · rw [hasK, List.any_eq_false]
    intro e he
    have := (hne (hK.en g hg e he) hn).2
    simpa using this
  · rw [← Bool.not_eq_true, List.contains_iff_mem]
    intro hm
    obtain ⟨b, hb⟩ := hK.kn g hg _ hm
    exact (hne hb hn).1 rfl
  · rw [← Bool.not_eq_true, List.contains_iff_mem]
    intro hm
    obtain ⟨b, hb⟩ := hK.kn g hg _ hm
    exact (hne hb hn).2 rfl
end Go.Rx

/- All that is kept: a saga begins; a world without sagas. -/
set_option linter.unusedVariables false
set_option linter.unusedSimpArgs false
namespace Go.Rx
theorem snd_new {l : List Ledger} {r : Rec} (h : ∀ n, did l (newS r) n = false ∧ und l (newS r) n = false ∧ knc l (newS r) n = false ∧ knu l (newS r) n = false) : Snd l (newS r) ∧ Knw l (newS r) := by
  refine ⟨⟨fun n hd => ?_, fun n hd => ?_, fun n hn => ?_, fun n hb => ?_, fun hs => ?_, fun hs => ?_, fun n hd => ?_, fun n hd => ?_⟩, ⟨fun n hd => ?_, fun n hd => ?_⟩⟩
  · rw [(h n).1] at hd; cases hd
  · rw [(h n).2.1] at hd; cases hd
  · have : (n : Int) < 0 := hn
    omega
  · cases hb
  · have : (0 : Int) = 1 := hs
    omega
  · have : (0 : Int) = 2 := hs
    omega
  · rw [(h n).2.1] at hd; cases hd
  · rw [(h n).2.2.2] at hd; cases hd
  · rw [(h n).2.2.1] at hd; cases hd
  · rw [(h n).2.2.2] at hd; cases hd
theorem app_at {α : Type} {l : List α} {a x : α} {i : Nat} (h : (l ++ [a])[i]? = some x) : (i < l.length ∧ l[i]? = some x) ∨ (i = l.length ∧ x = a) := by
  rcases Nat.lt_or_ge i l.length with hi | hi
  · rw [List.getElem?_append_left hi] at h; exact .inl ⟨hi, h⟩
  · rw [List.getElem?_append_right hi] at h
    have h1 := (List.getElem?_eq_some_iff.1 h).1
    rw [List.length_singleton] at h1
    have e : i - l.length = 0 := by omega
    rw [e] at h
    exact .inr ⟨by omega, (Option.some.inj h).symm⟩
theorem app_left {α : Type} {l m : List α} {x : α} {i : Nat} (h : l[i]? = some x) : (l ++ m)[i]? = some x := by
  rw [List.getElem?_append_left (List.getElem?_eq_some_iff.1 h).1]; exact h
theorem WInv.begins {w : Wd} {tb : Int} {r : Rec} (h : WInv w tb) (ht : 0 ≤ tb) (hg : GoodR r) (hk : r.kind = 1) (hid : r.id = ((w.lives.length + 1 : Nat) : Int)) (hkey : keyI (sagasL w.lives) r.key < 0) {f : FileS} (hf : fileB f = true) : WInv { w with file := f, lives := w.lives ++ [⟨newS r, 0, w.clock, zRec, false⟩] } tb := by
  have hs : Sgs (sagasL w.lives ++ [newS r]) := by
    have := sgs_step h.sgs hg.b hg.ok (r := r) (by
      rw [goesB, if_pos hk, hid, sagasL, List.length_map]
      simp; exact hkey)
    rw [stepL, if_pos hk] at this
    exact this
  refine ⟨h.c0, h.c1, h.k0, h.k1, h.ol, h.ob, hf, h.ledgers, ?_, fun v hv => ?_⟩
  · show togB (sagasL (w.lives ++ [_])) = true
    rw [sagasL, List.map_append]
    exact tog_sgs hs
  · rcases List.mem_append.1 hv with e | e
    · exact h.lives v e
    · rw [List.mem_singleton.1 e]
      exact ⟨Int.le_refl 0, ht, h.c0, by have := h.c1; show w.clock ≤ _; omega, .inl ⟨rfl, rfl⟩⟩
theorem KInv.begins {w : Wd} {tb : Int} {r : Rec} (h : KInv w tb) (ht : 0 ≤ tb) (he : (beginWd w r).2 = 0) : KInv (beginWd w r).1 tb ∧ MonoW w (beginWd w r).1 := by
  have hrd : (readyW w r).2 = 0 := by
    unfold beginWd at he
    split at he
    · assumption
    · exact he
  obtain ⟨m1, m2, m3, m4, m5, m6, m7, m8⟩ := readyW_may hrd
  obtain ⟨j1, j2, j3, j4⟩ := japp_ok m8
  have hk := (begins_parts m2).1
  have hsf := sync_file (app_file m8)
  have hfb := sync_may (app_file m8)
  rw [hsf, j3] at hfb
  simp only at hfb
  have eW : (beginWd w r).1 = { w with file := ⟨w.file.safe ++ (w.file.tail ++ frR r), ⟨#[]⟩, w.file.cap⟩, lives := w.lives ++ [⟨newS r, 0, w.clock, zRec, false⟩] } := by
    rw [beginWd, if_pos hrd, begin_newS m2, m7, hsf, j3]
  rw [eW]
  obtain ⟨A, y, hj⟩ := h.jrn
  have hW := h.inv.begins ht j2 hk m3 m4 hfb
  have hnone := fun n => none_new h.inv h.eff.keys (s := newS r) m3 (hW.sgL w.lives.length (newS r) (by
    show (sagasL (w.lives ++ [_]))[_]? = _
    rw [sagasL, List.map_append, List.getElem?_append_right (by rw [List.length_map]; exact Nat.le_refl _), List.length_map, Nat.sub_self]; rfl)) n
  obtain ⟨q1, q2⟩ := snd_new hnone
  obtain ⟨z, hz, hat, hrm⟩ := hj.whole
  have told : ∀ (i : Nat) (s : Saga), z[i]? = some s → ∃ v, w.lives[i]? = some v ∧ (Mono v.saga s ∧ Snd w.ledgers s ∧ Knw w.ledgers s ∧ roomI s ≤ roomI v.saga) := fun i s hs => by
    have hil : i < w.lives.length := by rw [← hat.len]; exact (List.getElem?_eq_some_iff.1 hs).1
    exact ⟨w.lives[i], List.getElem?_eq_getElem hil, h.told (List.getElem?_eq_getElem hil) (hat.is i _ s (List.getElem?_eq_getElem hil) hs)⟩
  have hgo : goesB z r = true := by
    have hkz : keyI z r.key < 0 := idx_neg.2 fun s hs => by
      obtain ⟨i, hi⟩ := List.getElem?_of_mem hs
      obtain ⟨v, hv, t, _⟩ := told i s hi
      have := idx_neg.1 m4 v.saga (by rw [sagasL]; exact List.mem_map_of_mem (List.mem_of_getElem? hv))
      rw [t.key]; exact this
    rw [goesB, if_pos hk, m3, hat.len]
    simp; exact hkz
  have hfold : foldL [] (A ++ [r]) = some (z ++ [newS r]) := by
    rw [foldL_app, hz, Option.bind_some, foldL, if_pos hgo, foldL, stepL, if_pos hk]
  have hfr : (frmR r).1 = frR r := by rw [frmR, if_neg (by have := j2.le; omega)]
  have hcap := fileB_iff.1 j1
  have hnew := room_bd (new_may j2.b hk)
  have hlen := hW.len
  have hlen' : w.lives.length + 1 ≤ 20 := by
    have : (w.lives ++ [(⟨newS r, 0, w.clock, zRec, false⟩ : Live)]).length ≤ 20 := hlen
    rw [List.length_append, List.length_singleton] at this
    exact this
  have hsum : sumR z ≤ sumR (sagasL w.lives) := sumR_le (by rw [sagasL, List.length_map]; exact hat.len) fun i x s hx hs => by
    obtain ⟨v, hv, t⟩ := told i x hx
    rw [sagas_at hv] at hs
    cases hs
    exact t.2.2.2
  have hroom : ((frR r).size : Int) + roomI (newS r) + sumR (sagasL w.lives) ≤ roomF w.file := by
    rw [roomW, if_pos (by rw [frmR, if_neg (by have := j2.le; omega)])] at m6
    have m6' := of_decide_eq_true m6
    rw [needW, hfr, begin_newS m2, wrapI (by omega), roomGo_eq (fun v hv => room_bd (h.inv.saga hv)) (by omega) (by omega)] at m6'
    exact m6'
  have hsz := hj.size
  refine ⟨⟨hW, ⟨?_, fun v hv => ?_, fun v hv => ?_⟩, A ++ [r], A.length + 1, ?_⟩, ⟨?_, fun i v hi => ⟨v, app_left hi, Mono.refl _⟩⟩⟩
  · refine h.eff.keys.same fun i s hs => ⟨s, ?_, rfl, rfl⟩
    show (sagasL (w.lives ++ [_]))[i]? = _
    rw [sagasL, List.map_append]
    exact app_left hs
  · rcases List.mem_append.1 hv with e | e
    · exact h.eff.snd v e
    · rw [List.mem_singleton.1 e]
      exact ⟨q1, fun hk => absurd rfl hk⟩
  · rcases List.mem_append.1 hv with e | e
    · exact h.eff.knw v e
    · rw [List.mem_singleton.1 e]; exact q2
  · have hl1 : (A ++ [r]).length = A.length + 1 := by rw [List.length_append, List.length_singleton]
    have ht1 : (A ++ [r]).take (A.length + 1) = A ++ [r] := List.take_of_length_le (by omega)
    have hd1 : (A ++ [r]).drop (A.length + 1) = [] := List.drop_of_length_le (by omega)
    have hsc : ((catR (A ++ [r])).size : Int) = (catR A).size + (frR r).size := by rw [catR_app, catR_one, ByteArray.size_append]; omega
    refine ⟨fun x hx => ?_, by omega, fun x hx => (by rw [hd1] at hx; cases hx), ?_, by rw [hd1]; rfl, fun j h1 h2 => ?_, fun z' hz' i v s hv hs => ?_⟩
    · rcases List.mem_append.1 hx with e | e
      · exact hj.good x e
      · rw [List.mem_singleton.1 e]; exact j2
    · rw [ht1]
      show w.file.safe ++ (w.file.tail ++ frR r) = _
      rw [catR_app, catR_one, ← cat_both A y, ← hj.safe, ← hj.tail, ba_assoc]
    · obtain rfl : j = A.length + 1 := by omega
      rw [ht1]
      refine ⟨_, hfold, ⟨?_, fun i v s hv hs => ?_⟩, ?_⟩
      · show (z ++ [newS r]).length = (w.lives ++ [_]).length
        rw [List.length_append, List.length_append, hat.len]; rfl
      · rcases app_at hv with ⟨hi, hv'⟩ | ⟨hi, rfl⟩
        · rcases app_at hs with ⟨_, hs'⟩ | ⟨hi2, _⟩
          · exact hat.is i v s hv' hs'
          · rw [hat.len] at hi2; omega
        · rcases app_at hs with ⟨hi2, _⟩ | ⟨_, rfl⟩
          · rw [hat.len] at hi2; omega
          · exact .inl rfl
      · show sumR (z ++ [newS r]) ≤ w.file.cap - _
        rw [sumR_app, hsc]
        simp only [sumR]
        omega
    · rw [hfold] at hz'
      cases hz'
      rcases app_at hv with ⟨hi, hv'⟩ | ⟨hi, rfl⟩
      · rcases app_at hs with ⟨_, hs'⟩ | ⟨hi2, _⟩
        · exact hj.full z hz i v s hv' hs'
        · rw [hat.len] at hi2; omega
      · rcases app_at hs with ⟨hi2, _⟩ | ⟨_, rfl⟩
        · rw [hat.len] at hi2; omega
        · rfl
  · show w.lives.length ≤ (w.lives ++ [_]).length
    rw [List.length_append]; omega
theorem KInv.news {size : Int} {outs : List Int} (h : (newWd size outs).2 = 0) : KInv (newWd size outs).1 0 := by
  unfold newWd at h ⊢
  split at h
  · rename_i h1
    rw [if_pos h1]
    split at h
    · rename_i h2
      rw [if_pos h2]
      have hi := worldB_iff.1 h2
      have hfb : fileB ⟨⟨#[]⟩, ⟨#[]⟩, size⟩ = true := by
        unfold newF at h1
        split at h1
        · assumption
        · cases h1
      have e : (newF size).1 = ⟨⟨#[]⟩, ⟨#[]⟩, size⟩ := by rw [newF, if_pos hfb]
      have hc := fileB_iff.1 hfb
      refine ⟨hi.lower (Int.le_refl 0) fun v hv => (by cases hv), ⟨⟨fun g hg x hx => ?_, fun g hg x hx => ?_⟩, fun v hv => (by cases hv), fun v hv => (by cases hv)⟩, [], 0, ⟨fun r hr => (by cases hr), Nat.le_refl _, fun r hr => (by cases hr), ?_, ?_, fun j h1 h2 => ?_, fun z hz i v x hv hx => (by cases hv)⟩⟩
      · simp only [newL, List.mem_cons, List.not_mem_nil, or_false] at hg
        rcases hg with rfl | rfl | rfl | rfl <;> cases hx
      · simp only [newL, List.mem_cons, List.not_mem_nil, or_false] at hg
        rcases hg with rfl | rfl | rfl | rfl <;> cases hx
      · show (newF size).1.safe = _
        rw [e]; rfl
      · show (newF size).1.tail = _
        rw [e]; rfl
      · refine ⟨[], by rw [List.take_nil]; rfl, ⟨rfl, fun i v x hv hx => (by cases hv)⟩, ?_⟩
        show (0 : Int) ≤ (newF size).1.cap - _
        rw [e, List.take_nil]
        show (0 : Int) ≤ size - ((0 : Nat) : Int)
        have : 1 ≤ size := hc.1
        omega
    · cases h
  · rename_i h1; exact absurd h h1
end Go.Rx

/- All that is kept is sound. -/
set_option linter.unusedVariables false
set_option linter.unusedSimpArgs false
namespace Go.Rx
/-- Whose an entry is, as the law asks. -/
theorem KInv.entry {w : Wd} {tb : Int} (h : KInv w tb) {g : Ledger} (hg : g ∈ w.ledgers) {e : Entry} (he : e ∈ g.entries) :
    ∃ (i n : Nat) (v : Live) (st : Step), w.lives[i]? = some v ∧ v.saga.steps[n]? = some st ∧ 0 ≤ e.key ∧ e.key ≤ 3000 ∧ e.key / 100 = ((i + 1 : Nat) : Int) ∧ e.key % 100 / 2 = (n : Int) ∧ n < 5 ∧ st.service = g.service ∧ ((e.key % 2 = 0 ∧ e.back = false) ∨ (e.key % 2 = 1 ∧ e.back = true)) := by
  obtain ⟨i, s, n, st, h1, h2, h3, h4⟩ := h.eff.keys.en g hg e he
  have hs := h.inv.sgL i s h1
  rw [sagasL, List.getElem?_map, Option.map_eq_some_iff] at h1
  obtain ⟨v, hv, rfl⟩ := h1
  have hid := h.inv.ids hv
  have hn := (List.getElem?_eq_some_iff.1 h2).1
  have hk := keys_at hs.1 (show n < 5 by omega)
  refine ⟨i, n, v, st, hv, h2, ?_⟩
  rcases h4 with ⟨e1, e2⟩ | ⟨e1, e2⟩
  · rw [hk.1] at e1
    exact ⟨by omega, by omega, by omega, by omega, by omega, h3, .inl ⟨by omega, e2⟩⟩
  · rw [hk.2] at e1
    exact ⟨by omega, by omega, by omega, by omega, by omega, h3, .inr ⟨by omega, e2⟩⟩
/-- What a step's effects are, as the law asks. -/
theorem KInv.sound {w : Wd} {tb : Int} (h : KInv w tb) {v : Live} (hv : v ∈ w.lives) {n : Nat} (hn : n < v.saga.steps.length) :
    ∃ (st : Step) (g : Ledger), v.saga.steps[n]? = some st ∧ w.ledgers[(st.service - 1).toNat]? = some g ∧ (1 ≤ st.service ∧ st.service ≤ 4) ∧
      did w.ledgers v.saga n = hasK g (callKey v.saga.id n) ∧ und w.ledgers v.saga n = hasK g (undoKey v.saga.id n) ∧ Snd w.ledgers v.saga := by
  have hsg := h.inv.saga hv
  have hsv := sv_of (step_pair hsg hn).1.1
  have hlen := (ledgersB_iff.1 h.inv.ledgers).len
  have hg : w.ledgers[(v.saga.steps[n].service - 1).toNat]? = some (w.ledgers[(v.saga.steps[n].service - 1).toNat]'(by omega)) := List.getElem?_eq_getElem (by omega)
  have hst : v.saga.steps[n]? = some v.saga.steps[n] := List.getElem?_eq_getElem hn
  exact ⟨_, _, hst, hg, hsv, atLed_at hst hg, atLed_at hst hg, (h.eff.snd v hv).1⟩
end Go.Rx

/- Crash. -/
set_option linter.unusedVariables false
set_option linter.unusedSimpArgs false
set_option maxRecDepth 8000
namespace Go.Rx
theorem finWC {c t : Int} {f : FileS} {g : List Ledger} {l : List Saga} {o : List Int} {q : Wd × Int} {R : List (List PV)} (hR : R = l.map fun s => Live.encZ s c) (h : Fin (⟨c, f, g, freshL c l, o, t⟩, 0) q) :
    ∃ zs, Fa WkA [.agg [.pv (pI c), .pv (pS f.safe), .pv (pS f.tail), .pv (pI f.cap), .pv (encLedgers g), .pv (.sl 18 R), .pv (encInts o), .pv (pI t)], I 0] zs ∧ pack zs = some (wdE q) := by
  subst hR
  rw [← h.out]
  refine ⟨[.agg (Wd.lfs ⟨c, f, g, freshL c l, o, t⟩), I 0], ⟨.inr (.inr ⟨_, _, rfl, rfl, .inl rfl, .inl rfl, .inl rfl, .inl rfl, .inl rfl, ?_, .inl rfl, .inl rfl, trivial⟩), .inl rfl, trivial⟩, rfl⟩
  refine .inr ⟨_, _, rfl, rfl, wkPR ?_⟩
  show Fa (Fa WkP) (l.map fun s => Live.encZ s c) ((l.map fun s => ⟨s, 0, c, zRec, false⟩).map Live.enc)
  rw [List.map_map]
  clear h
  induction l with
  | nil => trivial
  | cons s l ih => exact ⟨encZ_wk s c, ih⟩
end Go.Rx
namespace Go.Proofs.YtfjllfjmggooeaaGreatDoor.Rx
open Go.Rx Go.Proofs Go.Proofs.YtfjllfjmggooeaaGreatDoor.RxH
set_option maxHeartbeats 4000000 in
theorem crashWd_con (w : Wd) (hw : w.Ok) (hb : worldB w = true) (keep : Int) (x : FileS) (l : List Rec) (f : FileS) (z : List Saga) (h1 : crashP w.file keep = (x, 0)) (hx : x.Ok) (h2 : recovP x = (l, f, 0)) (hl : l.length * 80 ≤ 140737488355328) (hr : ∀ r ∈ l, r.Ok) (h3 : ofP l = (z, 0)) (hz : z.length ≤ 20) : Con P 27 [encWd w, Go.Rx.I keep] (wdE ({ w with file := f, lives := freshL w.clock z }, 0)) [] := by
  have cm := worldMay_con w hw
  have co := wown_con w hw
  have cf := fcrash_con w.file hw.file keep
  have cr := recover_con x hx
  have ca := of_con l hl hr
  rw [hb] at cm
  rw [h1] at cf
  rw [h2] at cr
  rw [h3] at ca
  have hgm : (w.ledgers.map Ledger.enc).length = w.ledgers.length := List.length_map ..
  have hlm : (w.lives.map Live.enc).length = w.lives.length := List.length_map ..
  have hom : (intRows w.outs).length = w.outs.length := List.length_map ..
  have hzm : (z.map Saga.enc).length = z.length := List.length_map ..
  have hrm : (l.map Rec.enc).length = l.length := List.length_map ..
  refine Con.of T_ok Tryz.func27 rfl (by kernel_rfl) (by kernel_rfl) (aw_of T_ok (by kernel_rfl) ?_)
  conv => whnf
  refine callS cm rfl ?_
  conv => whnf
  refine ⟨_, _, _, wk_refl _, co, .inr ?_⟩
  conv => whnf
  refine callU cf (fun _ => rfl) ?_
  conv => whnf
  refine ⟨_, _, _, wk_refl _, cr, .inr ?_⟩
  conv => whnf
  refine ⟨hrm, ?_⟩
  conv => whnf
  refine callU ca (fun _ => rfl) ?_
  conv => whnf
  refine AW.loop (fun k : Nat => k ≤ z.length) (fun k => [(2, .lf (.ptr 0 0)), (4, .lf (.ptr 1 0)), (5, Go.Rx.I 0), (48, .lf (.pv (encSagas z))), (49, Go.Rx.I ((z.map Saga.enc).length : Nat)), (50, Go.Rx.I k)])
    (fun k => [.var [.pv (pI w.clock), .pv (pS f.safe), .pv (pS f.tail), .pv (pI f.cap), .own 2 w.ledgers.length, .own 7 k, .own 4 w.outs.length, .pv (pI w.taken)], .var zWdV, .arr 47 3 (w.ledgers.map Ledger.enc), .arr 44 18 (w.lives.map Live.enc), .arr 3 1 (intRows w.outs), .var [.pv (pS f.safe), .pv (pS f.tail), .pv (pI f.cap)], .frz 6 (l.map Rec.enc), .arr 44 18 ((z.take k).map fun s => Live.encZ s w.clock)]) (fun k => z.length - k) [.cell 0 5 44 18] ?_ ?_
  · exact ⟨rfl, 0, Nat.zero_le _, ⟨rfl, rfl, rfl, rfl, rfl, rfl, trivial⟩, ⟨[], rfl⟩, rfl, rfl⟩
  intro k hk
  have hlen : ((z.take k).map fun s => Live.encZ s w.clock).length = k := by rw [List.length_map, List.length_take]; omega
  refine aw_of T_ok (by kernel_rfl) ?_
  conv => whnf
  split <;> rename_i hlt <;> conv => whnf
  · have hkl : k < z.length := by have : (k : Int) < ((z.map Saga.enc).length : Int) := of_decide_eq_true hlt
                                  omega
    have hrow : (z.map Saga.enc)[k]? = some z[k].enc := by simp [hkl]
    have em : (z.take (k + 1)).map (fun s => Live.encZ s w.clock) = (z.take k).map (fun s => Live.encZ s w.clock) ++ [Live.encZ z[k] w.clock] := by
      rw [List.take_succ_eq_append_getElem hkl, List.map_append]; rfl
    refine ⟨by omega, _, hrow, ?_⟩
    conv => whnf
    refine ⟨rfl, _, .inl rfl, ?_⟩
    conv => whnf
    refine ⟨hlen, by show (k + 1) * 200 ≤ _; omega, ?_⟩
    conv => whnf
    refine ⟨k + 1, ⟨by omega, by omega⟩, ⟨rfl, rfl, rfl, rfl, rfl, congrArg Go.Rx.I (wrapI (by omega)), trivial⟩, ⟨[?r1, ?s1], ?e1⟩, rfl, rfl⟩
    case e1 =>
      show _ = [_, _, _, _, _, _, _, Blk.arr _ _ ((z.take (k + 1)).map fun s => Live.encZ s w.clock)] ++ [_, _]
      rw [em]; rfl
  · have hke : k = z.length := by have : ¬ (k : Int) < ((z.map Saga.enc).length : Int) := of_decide_eq_false hlt
                                  omega
    subst hke
    refine ⟨hgm, ?_⟩
    conv => whnf
    refine ⟨hlen, ?_⟩
    conv => whnf
    refine ⟨hom, ?_⟩
    conv => whnf
    exact finWC (by rw [List.take_length]) ⟨rfl⟩
end Go.Proofs.YtfjllfjmggooeaaGreatDoor.Rx

/- What the laws of what is kept ask: has. -/
set_option linter.unusedVariables false
set_option linter.unusedSimpArgs false
set_option maxRecDepth 8000
namespace Go.Rx
theorem hasK_go {l : List Entry} {k : Int} {i : Nat} (h : i < l.length) : (l.drop i).any (fun e => e.key == k) = ((l[i].key == k) || (l.drop (i + 1)).any (fun e => e.key == k)) := by
  rw [List.drop_eq_getElem_cons h, List.any_cons]
end Go.Rx
namespace Go.Proofs.YtfjllfjmggooeaaGreatDoor.Rx
open Go.Rx Go.Proofs Go.Proofs.YtfjllfjmggooeaaGreatDoor.RxH
theorem has16_con (g : Ledger) (h : g.Ok) (k : Int) : Con P 62 [encLedger g, Go.Rx.I k] (Bl (hasK g k)) [] := by
  have hel := h.el
  obtain ⟨q, hq⟩ : ∃ q, q = hasK g k := ⟨_, rfl⟩
  rw [← hq]
  rw [hasK] at hq
  refine Con.of T_ok Tryz.func62 rfl (by kernel_rfl) (by kernel_rfl) (aw_of T_ok (by kernel_rfl) ?_)
  conv => whnf
  refine AW.loop (fun i : Nat => i ≤ g.entries.length ∧ q = (g.entries.drop i).any (fun e => e.key == k)) (fun i => [(1, Go.Rx.I k), (2, .lf (.ptr 0 0)), (5, Go.Rx.I i)]) (fun _ => [ledgerV g]) (fun i => g.entries.length - i) [] ?_ ?_
  · exact ⟨0, ⟨Nat.zero_le _, hq⟩, ⟨rfl, rfl, rfl, trivial⟩, ⟨[], rfl⟩, rfl, rfl⟩
  rintro i ⟨hi, hpre⟩
  have hem : (g.entries.map Entry.enc).length = g.entries.length := List.length_map ..
  refine aw_of T_ok (by kernel_rfl) ?_
  conv => whnf
  split <;> rename_i hlt <;> conv => whnf
  · have hil : i < g.entries.length := by have : (i : Int) < ((g.entries.map Entry.enc).length : Int) := of_decide_eq_true hlt
                                          omega
    have hrow : (g.entries.map Entry.enc)[i]? = some g.entries[i].enc := by simp [hil]
    rw [hasK_go hil] at hpre
    generalize g.entries[i] = e at hrow hpre
    refine ⟨by omega, _, hrow, ?_⟩
    conv => whnf
    split <;> rename_i h2 <;> conv => whnf
    · have h2' : (e.key == k) = true := h2
      exact finB ⟨by rw [hpre, h2']; rfl⟩
    · have h2' : (e.key == k) = false := h2
      rw [h2', Bool.false_or] at hpre
      exact ⟨i + 1, ⟨⟨hil, hpre⟩, by omega⟩, ⟨rfl, rfl, congrArg Go.Rx.I (wrapI (by omega)), trivial⟩, ⟨[], rfl⟩, rfl, rfl⟩
  · have hil : g.entries.length ≤ i := by have : ¬ (i : Int) < ((g.entries.map Entry.enc).length : Int) := of_decide_eq_false hlt
                                          omega
    rw [List.drop_of_length_le hil] at hpre
    exact finB ⟨by rw [hpre]; rfl⟩
end Go.Proofs.YtfjllfjmggooeaaGreatDoor.Rx

/- What the laws of what is kept ask: sound. -/
set_option linter.unusedVariables false
set_option linter.unusedSimpArgs false
set_option maxRecDepth 8000
namespace Go.Rx
/-- What the law tests of a step: did, undid, back, called, ahead of the call, behind what is left, committed, compensated. -/
def sndB (d u b c l g s1 s2 : Bool) : Bool := d && !c || u && (!d || !b) || l && !d || b && c && g && d && !u || s1 && (!d || u) || s2 && (d != u)
end Go.Rx
namespace Go.Proofs.YtfjllfjmggooeaaGreatDoor.Rx
open Go.Rx Go.Proofs Go.Proofs.YtfjllfjmggooeaaGreatDoor.RxH
theorem keys16_con (id i : Int) : Con P 61 [Go.Rx.I id, Go.Rx.I i] (pairI (callKey id i, undoKey id i)) [] := by
  refine Con.of T_ok Tryz.func61 rfl (by kernel_rfl) (by kernel_rfl) (aw_of T_ok (by kernel_rfl) ?_)
  conv => whnf
  exact ⟨_, wk_refl _, rfl⟩
set_option maxHeartbeats 4000000 in
theorem sound_con (w : Wd) (hw : w.Ok) {tb : Int} (h : KInv w tb) : Con P 28 [encWd w] (Bl true) [] := by
  have hgm : (w.ledgers.map Ledger.enc).length = w.ledgers.length := List.length_map ..
  have hlm : (w.lives.map Live.enc).length = w.lives.length := List.length_map ..
  have hgl := hw.gl
  have hll := hw.ll
  refine Con.of T_ok Tryz.func28 rfl (by kernel_rfl) (by kernel_rfl) (aw_of T_ok (by kernel_rfl) ?_)
  conv => whnf
  refine AW.loop (fun i : Nat => i ≤ w.ledgers.length) (fun i => [(1, .lf (.ptr 0 0)), (3, Go.Rx.I i)]) (fun _ => [.var w.lfs]) (fun i => w.ledgers.length - i) [] ?_ ?_
  · exact ⟨0, Nat.zero_le _, ⟨rfl, rfl, trivial⟩, ⟨[], rfl⟩, rfl, rfl⟩
  intro i hi
  refine aw_of T_ok (by kernel_rfl) ?_
  conv => whnf
  split <;> rename_i hlt <;> conv => whnf
  · have hil : i < w.ledgers.length := by have : (i : Int) < ((w.ledgers.map Ledger.enc).length : Int) := of_decide_eq_true hlt
                                          omega
    have hrow : (w.ledgers.map Ledger.enc)[i]? = some w.ledgers[i].enc := by simp [hil]
    have hgmem : w.ledgers[i] ∈ w.ledgers := List.getElem_mem hil
    have hok := hw.ledgers _ hgmem
    have wi : IntKind.i64.wrap ((i : Int) + 1) = ((i + 1 : Nat) : Int) := wrapI (by omega)
    generalize w.ledgers[i] = g at hrow hok hgmem
    have hel := hok.el
    have hem : (g.entries.map Entry.enc).length = g.entries.length := List.length_map ..
    refine ⟨by omega, _, hrow, ?_⟩
    conv => whnf
    refine AW.loop (fun k : Nat => k ≤ g.entries.length) (fun k => [(1, .lf (.ptr 0 0)), (3, Go.Rx.I i), (4, .lf (.ptr 1 0)), (5, Go.Rx.I k)]) (fun _ => [.var w.lfs, ledgerV g]) (fun k => g.entries.length - k) [] ?_ ?_
    · exact ⟨0, Nat.zero_le _, ⟨rfl, rfl, rfl, rfl, trivial⟩, ⟨[], rfl⟩, rfl, rfl⟩
    intro k hk
    refine aw_of T_ok (by kernel_rfl) ?_
    conv => whnf
    split <;> rename_i hlt2 <;> conv => whnf
    · have hkl : k < g.entries.length := by have : (k : Int) < ((g.entries.map Entry.enc).length : Int) := of_decide_eq_true hlt2
                                            omega
      have hrow2 : (g.entries.map Entry.enc)[k]? = some g.entries[k].enc := by simp [hkl]
      have hemem : g.entries[k] ∈ g.entries := List.getElem_mem hkl
      have wk : IntKind.i64.wrap ((k : Int) + 1) = ((k + 1 : Nat) : Int) := wrapI (by omega)
      generalize g.entries[k] = e at hrow2 hemem
      obtain ⟨a, n, v, st, e1, e2, e3, e4, e5, e6, e7, e8, e9⟩ := h.entry hgmem hemem
      have hal := (List.getElem?_eq_some_iff.1 e1).1
      have hnl := (List.getElem?_eq_some_iff.1 e2).1
      have hvr : (w.lives.map Live.enc)[a]? = some v.enc := by rw [List.getElem?_map, e1]; rfl
      have hsr : (v.saga.steps.map Step.enc)[n]? = some st.enc := by rw [List.getElem?_map, e2]; rfl
      have hsm : (v.saga.steps.map Step.enc).length = v.saga.steps.length := List.length_map ..
      refine ⟨by omega, _, hrow2, ?_⟩
      conv => whnf
      refine AW.draw T_ok rfl (seqPl 0 9) (by kernel_rfl) (by kernel_rfl) ?_
      conv => whnf
      refine ⟨e3, by decide, by omega, ?_⟩
      conv => whnf
      refine .inl ⟨e3, by decide, by omega, ?_⟩
      conv => whnf
      refine ⟨by omega, by decide, by omega, ?_⟩
      conv => whnf
      refine callS (between_con _ _ _) rfl ?_
      conv => whnf
      have hix : IntKind.i64.wrap (e.key / 100 - 1) = (a : Int) := by rw [e5, wrapI (by omega)]; omega
      split <;> rename_i t1 <;> conv => whnf
      · exfalso
        have t1' : (!(decide (1 ≤ e.key / 100) && decide (e.key / 100 ≤ ((w.lives.map Live.enc).length : Int)))) = true := t1
        rw [decide_eq_true (by omega), decide_eq_true (by omega)] at t1'
        cases t1'
      refine ⟨by rw [hix]; omega, _, by rw [hix]; exact hvr, ?_⟩
      conv => whnf
      refine AW.draw T_ok rfl (seqPl 0 25) (by kernel_rfl) (by kernel_rfl) ?_
      conv => whnf
      split <;> rename_i t2 <;> conv => whnf
      · exfalso
        have t2' : (((v.saga.steps.map Step.enc).length : Nat) : Int) ≤ e.key % 100 / 2 := of_decide_eq_true t2
        omega
      refine ⟨by omega, _, by rw [e6]; exact hsr, ?_⟩
      conv => whnf
      split <;> rename_i t3 <;> conv => whnf
      · exfalso
        have t3' : (st.service != g.service) = true := t3
        rw [e8] at t3'
        simp at t3'
      refine .inl ⟨e3, by decide, by omega, ?_⟩
      conv => whnf
      split <;> rename_i t4 <;> conv => whnf
      · exfalso
        have t4' : (e.back != (e.key % 2 == 1)) = true := t4
        rcases e9 with ⟨q1, q2⟩ | ⟨q1, q2⟩
        · rw [q1, q2] at t4'; cases t4'
        · rw [q1, q2] at t4'; cases t4'
      exact ⟨k + 1, ⟨hkl, by omega⟩, ⟨rfl, rfl, rfl, congrArg Go.Rx.I wk, trivial⟩, ⟨[_, _], rfl⟩, rfl, rfl⟩
    · have hkl : g.entries.length ≤ k := by have : ¬ (k : Int) < ((g.entries.map Entry.enc).length : Int) := of_decide_eq_false hlt2
                                            omega
      exact ⟨i + 1, ⟨hil, by omega⟩, ⟨rfl, congrArg Go.Rx.I wi, trivial⟩, ⟨[_], rfl⟩, rfl, rfl⟩
  · refine AW.loop (fun i : Nat => i ≤ w.lives.length) (fun i => [(1, .lf (.ptr 0 0)), (10, Go.Rx.I i)]) (fun _ => [.var w.lfs]) (fun i => w.lives.length - i) [] ?_ ?_
    · exact ⟨0, Nat.zero_le _, ⟨rfl, rfl, trivial⟩, ⟨[], rfl⟩, rfl, rfl⟩
    clear hlt hi i
    intro i hi
    refine aw_of T_ok (by kernel_rfl) ?_
    conv => whnf
    split <;> rename_i hlt <;> conv => whnf
    rotate_left
    · exact finB ⟨rfl⟩
    have hil : i < w.lives.length := by have : (i : Int) < ((w.lives.map Live.enc).length : Int) := of_decide_eq_true hlt
                                        omega
    have hrow : (w.lives.map Live.enc)[i]? = some w.lives[i].enc := by simp [hil]
    have hvm : w.lives[i] ∈ w.lives := List.getElem_mem hil
    have wi : IntKind.i64.wrap ((i : Int) + 1) = ((i + 1 : Nat) : Int) := wrapI (by omega)
    generalize w.lives[i] = v at hrow hvm
    refine ⟨by omega, _, hrow, ?_⟩
    conv => whnf
    have hsm : (v.saga.steps.map Step.enc).length = v.saga.steps.length := List.length_map ..
    have hok5 := hw.lives _ hvm
    have hsl := hok5.saga.steps.len
    refine AW.loop (fun n : Nat => n ≤ v.saga.steps.length) (fun n => [(1, .lf (.ptr 0 0)), (10, Go.Rx.I i), (11, .lf (.ptr 1 0)), (12, Go.Rx.I n)]) (fun _ => [.var w.lfs, sagaV v.saga]) (fun n => v.saga.steps.length - n) [] ?_ ?_
    · exact ⟨0, Nat.zero_le _, ⟨rfl, rfl, rfl, rfl, trivial⟩, ⟨[], rfl⟩, rfl, rfl⟩
    intro n hn
    refine aw_ofC T_ok 2025 (by kernel_rfl) ?_
    conv => whnf
    split <;> rename_i hlt2 <;> conv => whnf
    rotate_left
    · have hnl : v.saga.steps.length ≤ n := by have : ¬ (n : Int) < ((v.saga.steps.map Step.enc).length : Int) := of_decide_eq_false hlt2
                                               omega
      exact ⟨i + 1, ⟨hil, by omega⟩, ⟨rfl, congrArg Go.Rx.I wi, trivial⟩, ⟨[_], rfl⟩, rfl, rfl⟩
    have hnl : n < v.saga.steps.length := by have : (n : Int) < ((v.saga.steps.map Step.enc).length : Int) := of_decide_eq_true hlt2
                                             omega
    obtain ⟨st, g, e1, e2, e3, e4, e5, e6⟩ := h.sound hvm hnl
    have wn : IntKind.i64.wrap ((n : Int) + 1) = ((n + 1 : Nat) : Int) := wrapI (by omega)
    have hok := hw.ledgers _ (List.mem_of_getElem? e2)
    have hsr : (v.saga.steps.map Step.enc)[n]? = some st.enc := by rw [List.getElem?_map, e1]; rfl
    have hgr : (w.ledgers.map Ledger.enc)[(st.service - 1).toNat]? = some g.enc := by rw [List.getElem?_map, e2]; rfl
    have hw1 : IntKind.i64.wrap (st.service - 1) = st.service - 1 := wrapI (by omega)
    have c1 := has16_con g hok (callKey v.saga.id n)
    have c2 := has16_con g hok (undoKey v.saga.id n)
    have fa := e6.a n
    have fb := e6.b n
    have fc := e6.c n
    have fd := e6.d n
    have fe := fun q => e6.e q n hnl
    have ff := fun q => e6.f q n
    have fg := e6.g n
    rw [e4] at fa fb fc fd fe ff
    rw [e5] at fb fd fe ff fg
    clear e4 e5 e6
    generalize hasK g (callKey v.saga.id n) = b1 at c1 fa fb fc fd fe ff
    generalize hasK g (undoKey v.saga.id n) = b2 at c2 fb fd fe ff fg
    refine callS (keys16_con v.saga.id n) rfl ?_
    conv => whnf
    refine AW.draw T_ok rfl (seqPl 0 13) (by kernel_rfl) (by kernel_rfl) ?_
    conv => whnf
    refine ⟨by omega, _, hsr, ?_⟩
    conv => whnf
    refine ⟨by rw [hw1]; omega, _, by rw [hw1]; exact hgr, ?_⟩
    conv => whnf
    refine AW.draw T_ok rfl (listPl [0, 1, 3, 4, 2, 5, 6, 7]) (by kernel_rfl) (by kernel_rfl) ?_
    conv => whnf
    refine callS c1 rfl ?_
    conv => whnf
    refine callS c2 rfl ?_
    conv => whnf
    clear c1 c2
    have hpt := parts_iff.1 (h.inv.saga hvm)
    have hml := most_le hpt
    have hl0 := hpt.l0
    have hl1 := hpt.l1
    have wl : IntKind.i64.wrap (v.saga.left - 1) = v.saga.left - 1 := wrapI (by omega)
    clear hpt hml hl0 hl1
    clear h hvm hrow e1 e2 e3 hok hsr hgr hw1 hok5 hsl hlt hlt2 hw hgm hgl hll hlm
    have fin0 : sndB b1 b2 v.saga.back (decide ((n : Int) < v.saga.done) || (((n : Int) == v.saga.done) && v.saga.out)) (decide ((n : Int) < v.saga.done)) (decide ((n : Int) ≥ v.saga.left)) (v.saga.status == 1) (v.saga.status == 2) = false ∧ (b2 = true → ¬ (n : Int) < v.saga.left - 1) := by
      refine ⟨?_, fun hb => by have := fg hb; omega⟩
      cases hbk : v.saga.back <;> cases ho : v.saga.out <;> cases b1 <;> cases b2 <;>
        simp only [hbk, ho, Bool.false_eq_true, false_imp_iff, true_imp_iff, true_and, and_true, false_and, and_false, imp_false, imp_true_iff, not_false_eq_true, not_true_eq_false, reduceCtorEq, or_false, false_or] at fa fb fc fd fe ff fg <;>
        by_cases q1 : (n : Int) < v.saga.done <;> by_cases q2 : (n : Int) = v.saga.done <;> by_cases q3 : (n : Int) ≥ v.saga.left <;> by_cases q4 : v.saga.status = 1 <;> by_cases q5 : v.saga.status = 2 <;>
        first | (exfalso; omega) | (simp [sndB, q1, q2, q3, q4, q5]; done) | (simp [sndB, q1, q2, q3, q4, q5]; omega)
    clear fa fb fc fd fe ff fg
    refine AW.cut (fun c : Bool => c = (decide ((n : Int) < v.saga.done) || (((n : Int) == v.saga.done) && v.saga.out))) (fun c => [(1, .lf (.ptr 0 0)), (10, Go.Rx.I i), (11, .lf (.ptr 1 0)), (12, Go.Rx.I n), (16, Bl b1), (17, Bl b2), (18, Bl c)]) (fun _ => [.var w.lfs, sagaV v.saga]) [] (aw_of T_ok (by kernel_rfl) ?_) ?_
    · conv => whnf
      split <;> rename_i q1 <;> conv => whnf
      · exact ⟨true, by rw [show decide ((n : Int) < v.saga.done) = true from q1]; rfl, ⟨rfl, rfl, rfl, rfl, rfl, rfl, rfl, trivial⟩, ⟨[_], rfl⟩, rfl, rfl⟩
      have q1' : decide ((n : Int) < v.saga.done) = false := q1
      split <;> rename_i q2 <;> conv => whnf
      · exact ⟨v.saga.out, by rw [q1', show ((n : Int) == v.saga.done) = true from q2]; simp, ⟨rfl, rfl, rfl, rfl, rfl, rfl, rfl, trivial⟩, ⟨[_], rfl⟩, rfl, rfl⟩
      · exact ⟨false, by rw [q1', show ((n : Int) == v.saga.done) = false from q2]; rfl, ⟨rfl, rfl, rfl, rfl, rfl, rfl, rfl, trivial⟩, ⟨[_], rfl⟩, rfl, rfl⟩
    rintro c hc
    rw [← hc] at fin0
    clear hc
    obtain ⟨fin1, fin2⟩ := fin0
    refine aw_ofC T_ok 2026 (by kernel_rfl) ?_
    conv => whnf
    refine AW.cut (fun _ : Unit => True) (fun _ => [(1, .lf (.ptr 0 0)), (10, Go.Rx.I i), (11, .lf (.ptr 1 0)), (12, Go.Rx.I n), (17, Bl b2), (214, Bl false)]) (fun _ => [.var w.lfs, sagaV v.saga]) [] (aw_of T_ok (by kernel_rfl) ?_) ?_
    · conv => whnf
      cases b1 <;> cases b2 <;> cases c <;> conv => whnf
      all_goals repeat' (split <;> rename_i q <;> conv => whnf)
      all_goals first
        | exact ⟨(), trivial, ⟨rfl, rfl, rfl, rfl, rfl, rfl, trivial⟩, ⟨[], rfl⟩, rfl, rfl⟩
        | (exfalso; simp_all [sndB])
    rintro _ _
    refine aw_of T_ok (by kernel_rfl) ?_
    conv => whnf
    cases b2 <;> conv => whnf
    · exact ⟨n + 1, ⟨hnl, by omega⟩, ⟨rfl, rfl, rfl, congrArg Go.Rx.I wn, trivial⟩, ⟨[], rfl⟩, rfl, rfl⟩
    split <;> rename_i q <;> conv => whnf
    · exfalso
      have q' : (n : Int) < IntKind.i64.wrap (v.saga.left - 1) := of_decide_eq_true q
      rw [wl] at q'
      exact fin2 rfl q'
    · exact ⟨n + 1, ⟨hnl, by omega⟩, ⟨rfl, rfl, rfl, congrArg Go.Rx.I wn, trivial⟩, ⟨[], rfl⟩, rfl, rfl⟩
end Go.Proofs.YtfjllfjmggooeaaGreatDoor.Rx

/- How much a world is, and a script. -/
set_option linter.unusedVariables false
set_option linter.unusedSimpArgs false
set_option maxRecDepth 8000
namespace Go.Rx
/-- A sum that stops where it is much. -/
def capF {α : Type} (f : α → Int → Int) : List α → Int → Int
  | [], n => n
  | a :: l, n => if n < 1048576 then capF f l (f a n) else n
theorem capF_go {α : Type} {f : α → Int → Int} {l : List α} {k : Nat} {n : Int} (h : k < l.length) (hn : n < 1048576) : capF f (l.drop k) n = capF f (l.drop (k + 1)) (f l[k] n) := by rw [List.drop_eq_getElem_cons h, capF, if_pos hn]
theorem capF_stop {α : Type} {f : α → Int → Int} {l : List α} {n : Int} (hn : ¬ n < 1048576) : capF f l n = n := by cases l <;> simp [capF, hn]
theorem capF_end {α : Type} {f : α → Int → Int} {l : List α} {k : Nat} {n : Int} (h : l.length ≤ k) : capF f (l.drop k) n = n := by rw [List.drop_of_length_le h, capF]
end Go.Rx
namespace Go.Proofs.YtfjllfjmggooeaaGreatDoor.Rx
open Go.Rx Go.Proofs Go.Proofs.YtfjllfjmggooeaaGreatDoor.RxH
theorem ledgerWeights : ∃ f : Ledger → Int, ∀ g, g.Ok → Con P 72 [encLedger g] (Go.Rx.I (f g)) [] := by
  classical
  exact ⟨fun g => if h : g.Ok then Classical.choose (ledgerWeight_con g h) else 0, fun g h => by simp only [dif_pos h]; exact Classical.choose_spec (ledgerWeight_con g h)⟩
set_option maxHeartbeats 1000000 in
theorem worldWeight_con (w : Wd) (hw : w.Ok) : ∃ n, Con P 40 [encWd w] (Go.Rx.I n) [] := by
  obtain ⟨f, hf⟩ := ledgerWeights
  have hgm : (w.ledgers.map Ledger.enc).length = w.ledgers.length := List.length_map ..
  have hlm : (w.lives.map Live.enc).length = w.lives.length := List.length_map ..
  have hgl := hw.gl
  have hll := hw.ll
  have hs1 := hw.file.safe
  have hs2 := hw.file.tail
  obtain ⟨n0, hn0⟩ : ∃ n0, n0 = IntKind.i64.wrap (IntKind.i64.wrap ((w.file.safe.size : Int) + (w.file.tail.size : Int)) / 128 + ((intRows w.outs).length : Nat)) := ⟨_, rfl⟩
  obtain ⟨F, hF⟩ : ∃ F : Ledger → Int → Int, F = fun g n => IntKind.i64.wrap (n + f g) := ⟨_, rfl⟩
  obtain ⟨H, hH⟩ : ∃ H : Live → Int → Int, H = fun v n => IntKind.i64.wrap (IntKind.i64.wrap (n + sagaW v.saga) + recW v.write) := ⟨_, rfl⟩
  have hq : IntKind.i64.wrap ((w.file.safe.size : Int) + (w.file.tail.size : Int)) = (w.file.safe.size : Int) + (w.file.tail.size : Int) := wrapI (by simp only [okS] at hs1 hs2; omega)
  refine ⟨capF H w.lives (capF F w.ledgers n0), Con.of T_ok Tryz.func40 rfl (by kernel_rfl) (by kernel_rfl) (aw_of T_ok (by kernel_rfl) ?_)⟩
  conv => whnf
  refine ⟨by rw [hq]; omega, by decide, by rw [hq]; simp only [okS] at hs1 hs2; omega, ?_⟩
  conv => whnf
  refine AW.loop (fun p : Nat × Int => p.1 ≤ w.ledgers.length ∧ capF F (w.ledgers.drop p.1) p.2 = capF F w.ledgers n0) (fun p => [(1, .lf (.ptr 0 0)), (3, Go.Rx.I p.2), (4, Go.Rx.I p.1)]) (fun _ => [.var w.lfs]) (fun p => w.ledgers.length - p.1) [] ?_ ?_
  · exact ⟨(0, n0), ⟨Nat.zero_le _, rfl⟩, ⟨rfl, by rw [hn0]; rfl, rfl, trivial⟩, ⟨[], rfl⟩, rfl, rfl⟩
  rintro ⟨k, n⟩ ⟨hk, hsum⟩
  simp only at hk hsum
  refine aw_of T_ok (by kernel_rfl) ?_
  conv => whnf
  split <;> rename_i hlt <;> conv => whnf
  · have hkl : k < w.ledgers.length := by have := of_decide_eq_true hlt; simp only at this; omega
    split <;> rename_i h2 <;> conv => whnf
    · have h2' : n < 1048576 := of_decide_eq_true h2
      have hrow : (w.ledgers.map Ledger.enc)[k]? = some w.ledgers[k].enc := by simp [hkl]
      have hfg := hf _ (hw.ledgers _ (List.getElem_mem hkl))
      rw [capF_go hkl h2'] at hsum
      refine ⟨by show (0 : Int) ≤ (k : Int); omega, _, hrow, ?_⟩
      conv => whnf
      refine callS hfg rfl ?_
      conv => whnf
      refine ⟨(k + 1, F w.ledgers[k] n), ⟨⟨by simp only; omega, hsum⟩, by simp only; omega⟩, ⟨rfl, ?_, congrArg Go.Rx.I (wrapI (by simp only; omega)), trivial⟩, ⟨[], rfl⟩, rfl, rfl⟩
      rw [hF]; rfl
    · have h2' : ¬ n < 1048576 := of_decide_eq_false h2
      rw [capF_stop h2'] at hsum
      clear hlt h2 h2' hkl hk
      generalize capF F w.ledgers n0 = n at hsum ⊢
      subst hsum
      refine AW.loop (fun p : Nat × Int => p.1 ≤ w.lives.length ∧ capF H (w.lives.drop p.1) p.2 = capF H w.lives n) (fun p => [(1, .lf (.ptr 0 0)), (3, Go.Rx.I p.2), (5, Go.Rx.I p.1)]) (fun _ => [.var w.lfs]) (fun p => w.lives.length - p.1) [] ?_ ?_
      · exact ⟨(0, n), ⟨Nat.zero_le _, rfl⟩, ⟨rfl, rfl, rfl, trivial⟩, ⟨[], rfl⟩, rfl, rfl⟩
      rintro ⟨j, n⟩ ⟨hj, hsum⟩
      simp only at hj hsum
      refine aw_of T_ok (by kernel_rfl) ?_
      conv => whnf
      split <;> rename_i hlt <;> conv => whnf
      · have hkl : j < w.lives.length := by have := of_decide_eq_true hlt; simp only at this; omega
        split <;> rename_i h2 <;> conv => whnf
        · have h2' : n < 1048576 := of_decide_eq_true h2
          have hrow : (w.lives.map Live.enc)[j]? = some w.lives[j].enc := by simp [hkl]
          have hv := hw.lives _ (List.getElem_mem hkl)
          rw [capF_go hkl h2'] at hsum
          generalize w.lives[j] = v at hrow hv hsum
          refine AW.draw T_ok rfl (listPl [0, 1, 2, 3, 4, 5, 6, 9, 10, 11, 12, 13, 14, 7, 8, 15, 16, 17]) (by kernel_rfl) (by kernel_rfl) ?_
          conv => whnf
          refine ⟨by show (0 : Int) ≤ (j : Int); omega, _, hrow, ?_⟩
          conv => whnf
          refine ⟨by show (0 : Int) ≤ (j : Int); omega, _, hrow, ?_⟩
          conv => whnf
          refine callS (sagaW_con v.saga hv.saga) rfl ?_
          conv => whnf
          refine callS (recW_con v.write hv.write) rfl ?_
          conv => whnf
          refine ⟨(j + 1, H v n), ⟨⟨by simp only; omega, hsum⟩, by simp only; omega⟩, ⟨rfl, ?_, congrArg Go.Rx.I (wrapI (by simp only; omega)), trivial⟩, ⟨[], rfl⟩, rfl, rfl⟩
          rw [hH]; rfl
        · have h2' : ¬ n < 1048576 := of_decide_eq_false h2
          rw [capF_stop h2'] at hsum
          exact finI ⟨hsum⟩
      · have hkl : w.lives.length ≤ j := by have := of_decide_eq_false hlt; simp only at this; omega
        rw [capF_end hkl] at hsum
        exact finI ⟨hsum⟩
  · have hkl : w.ledgers.length ≤ k := by have := of_decide_eq_false hlt; simp only at this; omega
    rw [capF_end hkl] at hsum
    clear hlt hkl hk
    generalize capF F w.ledgers n0 = n at hsum ⊢
    subst hsum
    refine AW.loop (fun p : Nat × Int => p.1 ≤ w.lives.length ∧ capF H (w.lives.drop p.1) p.2 = capF H w.lives n) (fun p => [(1, .lf (.ptr 0 0)), (3, Go.Rx.I p.2), (5, Go.Rx.I p.1)]) (fun _ => [.var w.lfs]) (fun p => w.lives.length - p.1) [] ?_ ?_
    · exact ⟨(0, n), ⟨Nat.zero_le _, rfl⟩, ⟨rfl, rfl, rfl, trivial⟩, ⟨[], rfl⟩, rfl, rfl⟩
    rintro ⟨j, n⟩ ⟨hj, hsum⟩
    simp only at hj hsum
    refine aw_of T_ok (by kernel_rfl) ?_
    conv => whnf
    split <;> rename_i hlt <;> conv => whnf
    · have hkl : j < w.lives.length := by have := of_decide_eq_true hlt; simp only at this; omega
      split <;> rename_i h2 <;> conv => whnf
      · have h2' : n < 1048576 := of_decide_eq_true h2
        have hrow : (w.lives.map Live.enc)[j]? = some w.lives[j].enc := by simp [hkl]
        have hv := hw.lives _ (List.getElem_mem hkl)
        rw [capF_go hkl h2'] at hsum
        generalize w.lives[j] = v at hrow hv hsum
        refine AW.draw T_ok rfl (listPl [0, 1, 2, 3, 4, 5, 6, 9, 10, 11, 12, 13, 14, 7, 8, 15, 16, 17]) (by kernel_rfl) (by kernel_rfl) ?_
        conv => whnf
        refine ⟨by show (0 : Int) ≤ (j : Int); omega, _, hrow, ?_⟩
        conv => whnf
        refine ⟨by show (0 : Int) ≤ (j : Int); omega, _, hrow, ?_⟩
        conv => whnf
        refine callS (sagaW_con v.saga hv.saga) rfl ?_
        conv => whnf
        refine callS (recW_con v.write hv.write) rfl ?_
        conv => whnf
        refine ⟨(j + 1, H v n), ⟨⟨by simp only; omega, hsum⟩, by simp only; omega⟩, ⟨rfl, ?_, congrArg Go.Rx.I (wrapI (by simp only; omega)), trivial⟩, ⟨[], rfl⟩, rfl, rfl⟩
        rw [hH]; rfl
      · have h2' : ¬ n < 1048576 := of_decide_eq_false h2
        rw [capF_stop h2'] at hsum
        exact finI ⟨hsum⟩
    · have hkl : w.lives.length ≤ j := by have := of_decide_eq_false hlt; simp only at this; omega
      rw [capF_end hkl] at hsum
      exact finI ⟨hsum⟩
theorem heavy16_con (p : WScript) (h : p.Ok) : ∃ b, Con P 13 [encWScript p] (Bl b) [] := by
  obtain ⟨n1, c1⟩ := worldWeight_con p.w h.w
  have hm : (p.l.map WAct.enc).length = p.l.length := List.length_map ..
  have hll := h.len
  obtain ⟨n0, hn0⟩ : ∃ n0, n0 = IntKind.i64.wrap (n1 + ((p.l.map WAct.enc).length : Nat)) := ⟨_, rfl⟩
  obtain ⟨F, hF⟩ : ∃ F : WAct → Int → Int, F = fun a n => IntKind.i64.wrap (n + recW a.r) := ⟨_, rfl⟩
  refine ⟨decide (1500 < capF F p.l n0), Con.of T_ok Tryz.func13 rfl (by kernel_rfl) (by kernel_rfl) (aw_of T_ok (by kernel_rfl) ?_)⟩
  conv => whnf
  refine AW.draw T_ok rfl (listPl [0, 1, 3, 4, 5, 2, 6, 7]) (by kernel_rfl) (by kernel_rfl) ?_
  conv => whnf
  refine callS c1 rfl ?_
  conv => whnf
  refine AW.loop (fun q : Nat × Int => q.1 ≤ p.l.length ∧ capF F (p.l.drop q.1) q.2 = capF F p.l n0) (fun q => [(1, .lf (.ptr 0 0)), (3, Go.Rx.I q.2), (4, Go.Rx.I q.1)]) (fun _ => [.var (p.w.lfs ++ [.pv (encWActs p.l)])]) (fun q => p.l.length - q.1) [] ?_ ?_
  · exact ⟨(0, n0), ⟨Nat.zero_le _, rfl⟩, ⟨rfl, by rw [hn0]; rfl, rfl, trivial⟩, ⟨[], rfl⟩, rfl, rfl⟩
  rintro ⟨k, n⟩ ⟨hk, hsum⟩
  simp only at hk hsum
  refine aw_of T_ok (by kernel_rfl) ?_
  conv => whnf
  split <;> rename_i hlt <;> conv => whnf
  · have hkl : k < p.l.length := by have := of_decide_eq_true hlt; simp only at this; omega
    split <;> rename_i h2 <;> conv => whnf
    · have h2' : n < 1048576 := of_decide_eq_true h2
      have hrow : (p.l.map WAct.enc)[k]? = some p.l[k].enc := by simp [hkl]
      have hv := h.each _ (List.getElem_mem hkl)
      rw [capF_go hkl h2'] at hsum
      generalize p.l[k] = a at hrow hv hsum
      refine ⟨by show (0 : Int) ≤ (k : Int); omega, _, hrow, ?_⟩
      conv => whnf
      refine callS (recW_con a.r hv) rfl ?_
      conv => whnf
      refine ⟨(k + 1, F a n), ⟨⟨by simp only; omega, hsum⟩, by simp only; omega⟩, ⟨rfl, ?_, congrArg Go.Rx.I (wrapI (by simp only; omega)), trivial⟩, ⟨[], rfl⟩, rfl, rfl⟩
      rw [hF]; rfl
    · have h2' : ¬ n < 1048576 := of_decide_eq_false h2
      rw [capF_stop h2'] at hsum
      exact finB ⟨by rw [← hsum]⟩
  · have hkl : p.l.length ≤ k := by have := of_decide_eq_false hlt; simp only at this; omega
    rw [capF_end hkl] at hsum
    exact finB ⟨by rw [← hsum]⟩
end Go.Proofs.YtfjllfjmggooeaaGreatDoor.Rx

/- Steps. -/
set_option linter.unusedVariables false
set_option linter.unusedSimpArgs false
namespace Go.Rx
abbrev wdII (p : Wd × Nat × Int) : AV := .tup [.agg p.1.lfs, .lf (.pv (pI p.2.1)), .lf (.pv (pI p.2.2))]
end Go.Rx
namespace Go.Proofs.YtfjllfjmggooeaaGreatDoor.Rx
open Go.Rx Go.Proofs Go.Proofs.YtfjllfjmggooeaaGreatDoor.RxH
theorem steps_con (w : Wd) (hw : w.Ok) (hb : worldB w = true) (n : Nat) (hn : n ≤ 2000) (h : GoOk n w) : Con P 33 [encWd w, Go.Rx.I n] (wdII ((goW n w).1, (goW n w).2, 0)) [] := by
  have cm := worldMay_con w hw
  have c := go_con w hw n (by omega) h
  rw [hb] at cm
  generalize goW n w = p at c
  refine Con.of T_ok Tryz.func33 rfl (by kernel_rfl) (by kernel_rfl) (aw_of T_ok (by kernel_rfl) ?_)
  conv => whnf
  refine callS cm rfl ?_
  conv => whnf
  split <;> rename_i h1 <;> conv => whnf
  · exfalso
    simp only [Bool.not_true, Bool.false_or, Bool.or_eq_true, decide_eq_true_eq] at h1
    omega
  · refine callU c (fun _ => rfl) ?_
    conv => whnf
    exact ⟨_, wk_refl _, rfl⟩
end Go.Proofs.YtfjllfjmggooeaaGreatDoor.Rx

/- All that is kept: what each act of a world's keeps. -/
set_option linter.unusedVariables false
set_option linter.unusedSimpArgs false
namespace Go.Rx
theorem KInv.may {w : Wd} {tb : Int} (h : KInv w tb) (ht : tb ≤ 1073741824) : worldB w = true := worldB_iff.2 (h.inv.mono ht)
theorem KInv.more {w : Wd} {a b : Int} (h : KInv w a) (hab : a ≤ b) : KInv w b := ⟨h.inv.mono hab, h.eff, h.jrn⟩
theorem KInv.stepGo {w : Wd} {tb : Int} (h : KInv w tb) (ht : tb ≤ 1000000) : StepOk w := h.inv.stepOk (by omega) (h.goes (by omega))
theorem KInv.clock {w : Wd} {tb : Int} (h : KInv w tb) (hc : w.clock < 1073741824) : KInv { w with clock := IntKind.i64.wrap (w.clock + 1) } tb := by
  obtain ⟨A, y, j⟩ := h.jrn
  exact ⟨h.inv.clock hc, ⟨h.eff.keys, h.eff.snd, h.eff.knw⟩, A, y, ⟨j.good, j.le, j.tl, j.safe, j.tail, fun k a b => by
    obtain ⟨z, h1, h2, h3⟩ := j.pre k a b
    exact ⟨z, h1, ⟨h2.len, h2.is⟩, h3⟩, j.full⟩⟩
theorem KInv.goGo {w : Wd} {tb : Int} (h : KInv w tb) (ht : tb ≤ 1000000) {k : Nat} (hk : k ≤ 2000) : GoOk k w := h.inv.goOk (by omega) (KInv.run k h (by omega)).2.2
theorem KInv.stepped {w : Wd} {tb : Int} (h : KInv w tb) (ht : tb ≤ 1000000) (he : (stepWd w).2 = 0) : KInv (stepWd w).1 (tb + 2000) ∧ MonoW w (stepWd w).1 := by
  rw [stepWd, if_pos (h.may (by omega))] at he ⊢
  by_cases e : (stepW w).2 = 0
  · rw [if_pos e]
    have hs := h.step (by omega) e
    exact ⟨hs.1.more (by omega), hs.2⟩
  · rw [if_neg e] at he; exact absurd he e
theorem KInv.tickGo {w : Wd} {tb : Int} (h : KInv w tb) (ht : tb ≤ 1000000) : worldB w = true → w.clock < 1073741824 → GoOk 2000 { w with clock := IntKind.i64.wrap (w.clock + 1) } := fun _ hc => (h.clock hc).goGo ht (Nat.le_refl _)
theorem KInv.ticked {w : Wd} {tb : Int} (h : KInv w tb) (ht : tb ≤ 1000000) (he : (tickWd w).2 = 0) : KInv (tickWd w).1 (tb + 2000) ∧ MonoW w (tickWd w).1 := by
  rw [tickWd, if_pos (h.may (by omega))] at he ⊢
  by_cases hc : 1073741824 ≤ w.clock
  · rw [if_pos hc] at he; exact absurd he (by show ¬ (9 : Int) = 0; omega)
  · rw [if_neg hc]
    have hr := KInv.run 2000 (h.clock (by omega)) (by omega)
    exact ⟨hr.1.more (by omega), hr.2.1.len, hr.2.1.is⟩
theorem KInv.wents {w : Wd} {tb : Int} (h : KInv w tb) (ht : tb ≤ 1000000) {k : Nat} (hk : k ≤ 2000) : KInv (goW k w).1 (tb + 2000) ∧ MonoW w (goW k w).1 := by
  have hr := KInv.run k h (by omega)
  exact ⟨hr.1.more (by omega), hr.2.1⟩
theorem KInv.begun {w : Wd} {r : Rec} {tb : Int} (h : KInv w tb) (ht : 0 ≤ tb) (he : (beginWd w r).2 = 0) : KInv (beginWd w r).1 (tb + 2000) ∧ MonoW w (beginWd w r).1 := by
  have hb := h.begins ht he
  exact ⟨hb.1.more (by omega), hb.2⟩
theorem KInv.crashed {w : Wd} {tb : Int} (h : KInv w tb) (ht : 0 ≤ tb ∧ tb ≤ 1000000) (keep : Int) : (crashWd w keep).2 = 0 ∧ KInv (crashWd w keep).1 (tb + 2000) ∧ MonoW w (crashWd w keep).1 := by
  have hb := h.crash (h.may (by omega)) ht.1 keep
  exact ⟨hb.1, hb.2.1.more (by omega), hb.2.2⟩
/-- What a crash does, for its contract. -/
theorem KInv.crashIn {w : Wd} {tb : Int} (h : KInv w tb) (ht : tb ≤ 1000000) (keep : Int) : ∃ x l f z, crashP w.file keep = (x, 0) ∧ x.Ok ∧ recovP x = (l, f, 0) ∧ l.length * 80 ≤ 140737488355328 ∧ (∀ r ∈ l, r.Ok) ∧ ofP l = (z, 0) ∧ z.length ≤ 20 ∧ crashWd w keep = ({ w with file := f, lives := freshL w.clock z }, 0) := by
  have hb := h.may (show tb ≤ 1073741824 by omega)
  obtain ⟨A, y, hj⟩ := h.jrn
  have hfile : w.file = ⟨catR (A.take y), catR (A.drop y), w.file.cap⟩ := by rw [← hj.safe, ← hj.tail]
  have hfb := h.inv.file
  have hcap := (fileB_iff.1 hfb)
  rw [hfile] at hfb
  obtain ⟨m, x, m1, m2, m3, m4, m5, m6⟩ := jcrash hj.good hj.le hfb keep
  rw [← hfile] at m3
  obtain ⟨z, z1, z2, z3⟩ := hj.pre m m2 m1
  have hgm : ∀ r ∈ A.take m, GoodR r := fun r hr => hj.good r (List.mem_of_mem_take hr)
  have hall : (A.take m).all recB = true := List.all_eq_true.2 fun r hr => (hgm r hr).b
  have hof : ofP (A.take m) = (z, 0) := by rw [ofP, if_pos hall, z1]
  have hlen := cat_le hgm
  have hsz := fileB_iff.1 m6
  simp only at hsz
  refine ⟨x, _, _, z, m3, m4, m5, by omega, fun r hr => recB_ok (hgm r hr).b, hof, by rw [z2.len]; exact h.inv.len, ?_⟩
  rw [crashWd, if_pos hb, m3, m5, if_pos rfl, hof, if_pos rfl]
/-- A live ahead and behind, as the law compares them. -/
theorem MonoW.at' {w W : Wd} (h : MonoW w W) {i : Nat} (hi : i < w.lives.length) : ∃ x, W.lives[i]? = some x ∧ Mono w.lives[i].saga x.saga := h.is i _ (List.getElem?_eq_getElem hi)
end Go.Rx

/- The law of what is kept: from an empty world on, whatever is done. -/
set_option linter.unusedVariables false
set_option linter.unusedSimpArgs false
set_option maxRecDepth 8000
namespace Go.Rx
theorem news_may {outs : List Int} (h : outsB outs = true) : (newWd 9000 outs).2 = 0 := by
  rw [outsB, Bool.and_eq_true, decide_eq_true_eq, Bool.not_eq_true'] at h
  have e1 : (newF 9000).2 = 0 := by decide +kernel
  have e2 : (newF 9000).1 = ⟨⟨#[]⟩, ⟨#[]⟩, 9000⟩ := by unfold newF; rw [if_pos (by decide +kernel)]
  have hb : worldB ⟨0, (newF 9000).1, newL, [], outs, 0⟩ = true := by
    rw [e2]
    unfold worldB
    rw [if_neg (by simp only [h.2, Bool.or_false]; simp; omega), if_neg (by show ¬ (!(fileB ⟨⟨#[]⟩, ⟨#[]⟩, 9000⟩) || (!(ledgersB newL) || !(togB []))) = true; decide +kernel)]
    rfl
  rw [newWd, if_pos e1, if_pos hb]
/-- What the law asks of two sagas. -/
structure SgMono (a b : Saga) : Prop where
  key : (a.key != b.key) = false
  steps : a.steps = b.steps
  same : ¬ a.status = 0 → a = b
  done : a.done ≤ b.done
  back : a.back = true → b.back = true
  left : a.back = true → b.left ≤ a.left
theorem Mono.sg {a b : Saga} (h : Mono a b) : SgMono a b := ⟨by rw [h.key]; simp, h.steps.symm, fun e => (h.ended e).symm, h.done, h.back, h.left⟩
abbrev scrV (p : WScript) : Blk := .var (p.w.lfs ++ [.pv (encWActs p.l)])
abbrev wactV (a : WAct) : Blk := .var [.pv (pI a.act), .pv (pI a.n), .pv (pI a.r.kind), .pv (pI a.r.id), .pv (pI a.r.n), .pv (pS a.r.key), .pv (pS a.r.body), .pv (encSteps a.r.steps)]
end Go.Rx
namespace Go.Proofs.YtfjllfjmggooeaaGreatDoor.Rx
open Go.Rx Go.Proofs Go.Proofs.YtfjllfjmggooeaaGreatDoor.RxH
set_option maxHeartbeats 8000000 in
theorem worldKeeps_con (p : WScript) (h : p.Ok) : Con P 9 [encWScript p] (Bl true) [] := by
  obtain ⟨hv, ch⟩ := heavy16_con p h
  have co := outs16_con p.w.outs h.w.ol
  have cn := newWd_con 9000 p.w.outs h.w.ol
  have hm : (p.l.map WAct.enc).length = p.l.length := List.length_map ..
  have hll := h.len
  refine Con.of T_ok Tryz.func9 rfl (by kernel_rfl) (by kernel_rfl) (aw_of T_ok (by kernel_rfl) ?_)
  conv => whnf
  refine callS ch rfl ?_
  conv => whnf
  cases hv <;> conv => whnf
  rotate_left
  · exact finB ⟨rfl⟩
  refine callS co rfl ?_
  conv => whnf
  split <;> rename_i ho <;> conv => whnf
  · exact finB ⟨rfl⟩
  have ho' : outsB p.w.outs = true := by
    have ho2 : (!(outsB p.w.outs)) = false := ho
    simpa using ho2
  have hn0 := news_may ho'
  have hK0 := KInv.news hn0
  generalize newWd 9000 p.w.outs = x at cn hn0 hK0
  obtain ⟨w0, e0⟩ := x
  simp only at hn0 hK0
  subst hn0
  refine callU cn (fun _ => rfl) ?_
  conv => whnf
  refine callS (num16_con 0) rfl ?_
  conv => whnf
  refine AW.loop (fun q : Nat × Wd => q.1 ≤ p.l.length ∧ q.1 ≤ 30 ∧ KInv q.2 (2000 * (q.1 : Int))) (fun q => [(1, .lf (.ptr 0 0)), (3, .lf (.ptr 1 0)), (5, Go.Rx.I q.1)]) (fun q => [scrV p, .var q.2.lfs]) (fun q => p.l.length - q.1) [] ?_ ?_
  · exact ⟨(0, w0), ⟨Nat.zero_le _, Nat.zero_le _, hK0⟩, ⟨rfl, rfl, rfl, trivial⟩, ⟨[], rfl⟩, rfl, rfl⟩
  rintro ⟨i, w⟩ ⟨hi, hi30, hK⟩
  simp only at hi hi30 hK
  have wi : IntKind.i64.wrap ((i : Int) + 1) = ((i + 1 : Nat) : Int) := wrapI (by omega)
  refine aw_ofC T_ok 1012 (by kernel_rfl) ?_
  conv => whnf
  split <;> rename_i hlt <;> conv => whnf
  rotate_left
  · refine callS wakes16_con rfl ?_
    conv => whnf
    exact finB ⟨rfl⟩
  split <;> rename_i hlt3 <;> conv => whnf
  rotate_left
  · refine callS wakes16_con rfl ?_
    conv => whnf
    exact finB ⟨rfl⟩
  have hil : i < p.l.length := by have : (i : Int) < ((p.l.map WAct.enc).length : Int) := of_decide_eq_true hlt
                                  omega
  have hi3 : i < 30 := by have : (i : Int) < 30 := of_decide_eq_true hlt3
                          omega
  have hrow : (p.l.map WAct.enc)[i]? = some p.l[i].enc := by simp [hil]
  have har := h.each _ (List.getElem_mem hil)
  generalize p.l[i] = a at hrow har
  have hw := hK.inv.wok
  have hb := hK.may (show 2000 * (i : Int) ≤ 1073741824 by omega)
  refine ⟨by omega, _, hrow, ?_⟩
  conv => whnf
  refine AW.cut (fun q : Wd × Int => q.2 = 0 → KInv q.1 (2000 * ((i + 1 : Nat) : Int)) ∧ MonoW w q.1) (fun q => [(1, .lf (.ptr 0 0)), (3, .lf (.ptr 1 0)), (5, Go.Rx.I i), (7, .lf (.ptr 3 0)), (8, Go.Rx.I q.2)]) (fun q => [scrV p, .var w.lfs, wactV a, .var q.1.lfs]) [] (aw_of T_ok (by kernel_rfl) ?_) ?_
  · conv => whnf
    refine callS (within_con a.act 8 (by decide)) rfl ?_
    conv => whnf
    split <;> rename_i k1 <;> conv => whnf
    · -- Steps
      have hwn := within_lt (i := a.n) (n := 30) (by decide)
      obtain ⟨n, hn⟩ := Int.eq_ofNat_of_zero_le hwn.1
      have cs := steps_con w hw hb n (by omega) (hK.goGo (by omega) (by omega))
      have hs := hK.wents (show 2000 * (i : Int) ≤ 1000000 by omega) (show n ≤ 2000 by omega)
      rw [← hn] at cs
      generalize goW n w = g at cs hs
      obtain ⟨g, m⟩ := g
      refine AW.draw T_ok rfl (seqPl 0 11) (by kernel_rfl) (by kernel_rfl) ?_
      conv => whnf
      refine callS (within_con a.n 30 (by decide)) rfl ?_
      conv => whnf
      refine callU cs (fun _ => rfl) ?_
      conv => whnf
      exact ⟨(g, 0), fun _ => ⟨hs.1.more (by omega), hs.2⟩, ⟨rfl, rfl, rfl, rfl, rfl, trivial⟩, ⟨[], rfl⟩, rfl, rfl⟩
    split <;> rename_i k2 <;> conv => whnf
    · -- Tick
      have cs := tickWd_con w hw (hK.tickGo (by omega))
      have hs := hK.ticked (show 2000 * (i : Int) ≤ 1000000 by omega)
      generalize tickWd w = g at cs hs
      obtain ⟨g, e⟩ := g
      refine callU cs (fun _ => rfl) ?_
      conv => whnf
      exact ⟨(g, e), fun q => ⟨(hs q).1.more (by omega), (hs q).2⟩, ⟨rfl, rfl, rfl, rfl, rfl, trivial⟩, ⟨[], rfl⟩, rfl, rfl⟩
    have begins : ∀ r : Rec, r.Ok → ∃ g e, Con P 35 [encWd w, encRec r] (wdE (g, e)) [] ∧ (e = 0 → KInv g (2000 * ((i + 1 : Nat) : Int)) ∧ MonoW w g) := fun r hr => by
      have cs := beginWd_con w hw r hr
      have hs := fun q => hK.begun (r := r) (by omega) q
      generalize beginWd w r = g at cs hs
      obtain ⟨g, e⟩ := g
      exact ⟨g, e, cs, fun q => ⟨(hs q).1.more (by omega), (hs q).2⟩⟩
    have cc := copyRec_con a.r har
    obtain ⟨g, e, cb, hbq⟩ := begins ⟨a.r.kind, IntKind.i64.wrap (((w.lives.map Live.enc).length : Int) + 1), a.r.n, a.r.key, a.r.body, a.r.steps⟩ ⟨har.key, har.body, har.steps⟩
    clear begins
    split <;> rename_i k3 <;> conv => whnf
    · refine callU cc (fun _ => rfl) ?_
      conv => whnf
      refine callU cb (fun _ => rfl) ?_
      conv => whnf
      exact ⟨(g, e), hbq, ⟨rfl, rfl, rfl, rfl, rfl, trivial⟩, ⟨[_], rfl⟩, rfl, rfl⟩
    split <;> rename_i k4 <;> conv => whnf
    · refine callU cc (fun _ => rfl) ?_
      conv => whnf
      refine callU cb (fun _ => rfl) ?_
      conv => whnf
      exact ⟨(g, e), hbq, ⟨rfl, rfl, rfl, rfl, rfl, trivial⟩, ⟨[_], rfl⟩, rfl, rfl⟩
    split <;> rename_i k5 <;> conv => whnf
    · refine callU cc (fun _ => rfl) ?_
      conv => whnf
      refine callU cb (fun _ => rfl) ?_
      conv => whnf
      exact ⟨(g, e), hbq, ⟨rfl, rfl, rfl, rfl, rfl, trivial⟩, ⟨[_], rfl⟩, rfl, rfl⟩
    clear cb hbq cc
    split <;> rename_i k6 <;> conv => whnf
    · -- Crash
      obtain ⟨x, l, f, z, h1, h2, h3, h4, h5, h6, h7, h8⟩ := hK.crashIn (show 2000 * (i : Int) ≤ 1000000 by omega) a.n
      have cs := crashWd_con w hw hb a.n x l f z h1 h2 h3 h4 h5 h6 h7
      rw [← h8] at cs
      have hs := hK.crashed (show 0 ≤ 2000 * (i : Int) ∧ 2000 * (i : Int) ≤ 1000000 by omega) a.n
      clear h1 h2 h3 h4 h5 h6 h7 h8
      generalize crashWd w a.n = g at cs hs
      obtain ⟨g, e⟩ := g
      obtain ⟨s1, s2, s3⟩ := hs
      simp only at s1 s2 s3
      subst s1
      refine callU cs (fun _ => rfl) ?_
      conv => whnf
      refine callS (num16_con 0) rfl ?_
      conv => whnf
      exact ⟨(g, 0), fun _ => ⟨s2.more (by omega), s3⟩, ⟨rfl, rfl, rfl, rfl, rfl, trivial⟩, ⟨[], rfl⟩, rfl, rfl⟩
    · -- Step
      have cs := stepWd_con w hw (fun _ => hK.stepGo (by omega))
      have hs := hK.stepped (show 2000 * (i : Int) ≤ 1000000 by omega)
      generalize stepWd w = g at cs hs
      obtain ⟨g, e⟩ := g
      refine callU cs (fun _ => rfl) ?_
      conv => whnf
      exact ⟨(g, e), fun q => ⟨(hs q).1.more (by omega), (hs q).2⟩, ⟨rfl, rfl, rfl, rfl, rfl, trivial⟩, ⟨[], rfl⟩, rfl, rfl⟩
  rintro ⟨X, e⟩ hq
  simp only at hq
  have goOn : KInv w (2000 * ((i + 1 : Nat) : Int)) := hK.more (by omega)
  refine aw_of T_ok (by kernel_rfl) ?_
  conv => whnf
  refine callS (num16_con e) rfl ?_
  conv => whnf
  split <;> rename_i he <;> conv => whnf
  · exact ⟨(i + 1, w), ⟨⟨hil, by simp only; omega, goOn⟩, by simp only; omega⟩, ⟨rfl, rfl, congrArg Go.Rx.I wi, trivial⟩, ⟨[_, _], rfl⟩, rfl, rfl⟩
  have he' : e = 0 := by have he2 : (e != 0) = false := he
                         simpa using he2
  obtain ⟨hX, hM⟩ := hq he'
  have hXw := hX.inv.wok
  have hXb := hX.may (by omega)
  have c16 := world16_con X hXw
  have cs := sound_con X hXw hX
  rw [hXb] at c16
  have hlX : (X.lives.map Live.enc).length = X.lives.length := List.length_map ..
  have hlw : (w.lives.map Live.enc).length = w.lives.length := List.length_map ..
  have hll2 := hw.ll
  have hmono := hM.len
  refine callS c16 rfl ?_
  conv => whnf
  split <;> rename_i hl <;> conv => whnf
  · exfalso
    have : ((X.lives.map Live.enc).length : Int) < ((w.lives.map Live.enc).length : Int) := of_decide_eq_true hl
    omega
  refine callS cs rfl ?_
  conv => whnf
  refine AW.loop (fun k : Nat => k ≤ w.lives.length) (fun k => [(1, .lf (.ptr 0 0)), (3, .lf (.ptr 1 0)), (5, Go.Rx.I i), (7, .lf (.ptr 3 0)), (10, Go.Rx.I k)]) (fun _ => [scrV p, .var w.lfs, wactV a, .var X.lfs]) (fun k => w.lives.length - k) [] ?_ ?_
  · exact ⟨0, Nat.zero_le _, ⟨rfl, rfl, rfl, rfl, rfl, trivial⟩, ⟨[], rfl⟩, rfl, rfl⟩
  intro k hk
  refine aw_ofC T_ok 2034 (by kernel_rfl) ?_
  conv => whnf
  split <;> rename_i hlt2 <;> conv => whnf
  rotate_left
  · exact ⟨(i + 1, X), ⟨⟨hil, by simp only; omega, hX⟩, by simp only; omega⟩, ⟨rfl, rfl, congrArg Go.Rx.I wi, trivial⟩, ⟨[_, _], rfl⟩, rfl, rfl⟩
  have hkl : k < w.lives.length := by have : (k : Int) < ((w.lives.map Live.enc).length : Int) := of_decide_eq_true hlt2
                                      omega
  have hrow1 : (w.lives.map Live.enc)[k]? = some w.lives[k].enc := by simp [hkl]
  have hok1 := hw.lives _ (List.getElem_mem hkl)
  obtain ⟨x, hx, hmo⟩ := hM.at' hkl
  have hrow2 : (X.lives.map Live.enc)[k]? = some x.enc := by rw [List.getElem?_map, hx]; rfl
  have wk : IntKind.i64.wrap ((k : Int) + 1) = ((k + 1 : Nat) : Int) := wrapI (by omega)
  have hsg := hmo.sg
  generalize w.lives[k] = v at hrow1 hok1 hsg
  clear hmo hx
  refine AW.cutS (fun _ : Unit => True) (fun _ => [(1, .lf (.ptr 0 0)), (3, .lf (.ptr 1 0)), (5, Go.Rx.I i), (7, .lf (.ptr 3 0)), (10, Go.Rx.I k), (11, .lf (.ptr 4 0)), (12, .lf (.ptr 5 0))])
    (fun _ => [scrV p, .var w.lfs, wactV a, .var X.lfs, sagaV v.saga, sagaV x.saga]) (aw_of T_ok (by kernel_rfl) ?_) ?_
  · conv => whnf
    refine AW.draw T_ok rfl (.one 0 (.one 1 (.one 2 (.one 3 (.one 4 (.one 5 (.one 6 (.one 8 (.three 7 (.three 9 (.one 10 (.three 11 (.two 12 (.one 13 (.one 14 (.one 15 .done))) 13 (.one 12 (.one 14 (.one 15 .done)))) 12 (.two 11 (.one 13 (.one 14 (.one 15 .done))) 13 (.two 11 (.one 14 (.one 15 .done)) 14 (.one 11 (.one 15 .done)))) 13 (.two 11 (.one 12 (.one 14 (.one 15 .done))) 12 (.two 11 (.one 14 (.one 15 .done)) 14 (.one 11 (.one 15 .done)))))) 12 (.two 9 (.one 10 (.two 11 (.one 13 (.one 14 (.one 15 .done))) 13 (.two 11 (.one 14 (.one 15 .done)) 14 (.one 11 (.one 15 .done))))) 13 (.two 9 (.one 10 (.two 11 (.one 14 (.one 15 .done)) 14 (.one 11 (.one 15 .done)))) 14 (.one 9 (.one 10 (.one 11 (.one 15 .done)))))) 13 (.two 9 (.one 10 (.two 11 (.one 12 (.one 14 (.one 15 .done))) 12 (.two 11 (.one 14 (.one 15 .done)) 14 (.one 11 (.one 15 .done))))) 12 (.two 9 (.one 10 (.two 11 (.one 14 (.one 15 .done)) 14 (.one 11 (.one 15 .done)))) 14 (.one 9 (.one 10 (.one 11 (.one 15 .done))))))) 12 (.two 7 (.two 9 (.one 10 (.two 11 (.one 13 (.one 14 (.one 15 .done))) 13 (.two 11 (.one 14 (.one 15 .done)) 14 (.one 11 (.one 15 .done))))) 13 (.two 9 (.one 10 (.two 11 (.one 14 (.one 15 .done)) 14 (.one 11 (.one 15 .done)))) 14 (.one 9 (.one 10 (.one 11 (.one 15 .done)))))) 13 (.two 7 (.two 9 (.one 10 (.two 11 (.one 14 (.one 15 .done)) 14 (.one 11 (.one 15 .done)))) 14 (.one 9 (.one 10 (.one 11 (.one 15 .done))))) 14 (.one 7 (.one 9 (.one 10 (.one 11 (.one 15 .done))))))) 13 (.two 7 (.two 9 (.one 10 (.two 11 (.one 12 (.one 14 (.one 15 .done))) 12 (.two 11 (.one 14 (.one 15 .done)) 14 (.one 11 (.one 15 .done))))) 12 (.two 9 (.one 10 (.two 11 (.one 14 (.one 15 .done)) 14 (.one 11 (.one 15 .done)))) 14 (.one 9 (.one 10 (.one 11 (.one 15 .done)))))) 12 (.two 7 (.two 9 (.one 10 (.two 11 (.one 14 (.one 15 .done)) 14 (.one 11 (.one 15 .done)))) 14 (.one 9 (.one 10 (.one 11 (.one 15 .done))))) 14 (.one 7 (.one 9 (.one 10 (.one 11 (.one 15 .done)))))))))))))))) (by kernel_rfl) (by kernel_rfl) ?_
    conv => whnf
    repeat' first
      | exact ⟨[0, 1, 2, 3, 4, 5], [(1, .lf (.ptr 0 0)), (3, .lf (.ptr 1 0)), (5, Go.Rx.I i), (7, .lf (.ptr 3 0)), (10, Go.Rx.I k), (11, .lf (.ptr 4 0)), (12, .lf (.ptr 5 0))], ⟨rfl, rfl, rfl, rfl, rfl, rfl, rfl, trivial⟩, rfl, _, _, rfl, rfl, [], ⟨(), trivial, ⟨rfl, rfl, rfl, rfl, rfl, rfl, rfl, trivial⟩, ⟨[], rfl⟩, rfl, rfl⟩⟩
      | exact ⟨[0, 1, 2, 3, 5, 4], [(1, .lf (.ptr 0 0)), (3, .lf (.ptr 1 0)), (5, Go.Rx.I i), (7, .lf (.ptr 3 0)), (10, Go.Rx.I k), (11, .lf (.ptr 5 0)), (12, .lf (.ptr 4 0))], ⟨rfl, rfl, rfl, rfl, rfl, rfl, rfl, trivial⟩, rfl, _, _, rfl, rfl, [], ⟨(), trivial, ⟨rfl, rfl, rfl, rfl, rfl, rfl, rfl, trivial⟩, ⟨[], rfl⟩, rfl, rfl⟩⟩
      | (refine ⟨by omega, _, hrow1, ?_⟩; conv => whnf)
      | (refine ⟨by omega, _, hrow2, ?_⟩; conv => whnf)
      | (refine ⟨?_, ?_⟩ <;> conv => whnf)
  rintro _ _
  obtain ⟨g1, g2, g3, g4, g5, g6⟩ := hsg
  have ce := eqSteps_con v.saga.steps x.saga.steps hok1.saga.steps.len
  have cq := eqSaga_con v.saga x.saga hok1.saga.steps.len
  rw [decide_eq_true g2] at ce
  refine aw_of T_ok (by kernel_rfl) ?_
  conv => whnf
  split <;> rename_i t1 <;> conv => whnf
  · exfalso
    have t1' : (v.saga.key != x.saga.key) = true := t1
    rw [g1] at t1'; cases t1'
  refine callS ce rfl ?_
  conv => whnf
  split <;> rename_i t2 <;> conv => whnf
  · have t2' : ¬ v.saga.status = 0 := by have t3 : (v.saga.status != 0) = true := t2
                                         simpa using t3
    rw [decide_eq_true (g3 t2')] at cq
    refine callS cq rfl ?_
    conv => whnf
    clear ce cq g3 t2 t1 hrow1 hrow2 hok1
    cases hb1 : v.saga.back <;> cases hb2 : x.saga.back
    all_goals simp only [hb1, hb2, Bool.false_eq_true, false_imp_iff, true_imp_iff] at g5 g6
    all_goals repeat' (split <;> rename_i q <;> (try simp only [decide_eq_true_eq, decide_eq_false_iff_not] at q) <;> first | (exfalso; omega) | (exfalso; rw [hb1] at q; exact absurd q (by decide)) | (exfalso; rw [hb2] at q; exact absurd q (by decide)) | conv => whnf)
    all_goals exact ⟨k + 1, ⟨hkl, by omega⟩, ⟨rfl, rfl, rfl, rfl, congrArg Go.Rx.I wk, trivial⟩, ⟨[_, _], rfl⟩, rfl, rfl⟩
  · clear ce cq g3 t2 t1 hrow1 hrow2 hok1
    cases hb1 : v.saga.back <;> cases hb2 : x.saga.back
    all_goals simp only [hb1, hb2, Bool.false_eq_true, false_imp_iff, true_imp_iff] at g5 g6
    all_goals repeat' (split <;> rename_i q <;> (try simp only [decide_eq_true_eq, decide_eq_false_iff_not] at q) <;> first | (exfalso; omega) | (exfalso; rw [hb1] at q; exact absurd q (by decide)) | (exfalso; rw [hb2] at q; exact absurd q (by decide)) | conv => whnf)
    all_goals exact ⟨k + 1, ⟨hkl, by omega⟩, ⟨rfl, rfl, rfl, rfl, congrArg Go.Rx.I wk, trivial⟩, ⟨[_, _], rfl⟩, rfl, rfl⟩
end Go.Proofs.YtfjllfjmggooeaaGreatDoor.Rx

/- Copies of worlds. -/
set_option linter.unusedVariables false
set_option linter.unusedSimpArgs false
set_option maxRecDepth 8000
namespace Go.Proofs.YtfjllfjmggooeaaGreatDoor.Rx
open Go.Rx Go.Proofs Go.Proofs.YtfjllfjmggooeaaGreatDoor.RxH
theorem copyLive_con (v : Live) (h : v.Ok) : Con P 82 [encLive v] (encLive v) [] := by
  refine Con.of T_ok Tryz.func82 rfl (by kernel_rfl) (by kernel_rfl) (aw_of T_ok (by kernel_rfl) ?_)
  conv => whnf
  refine callU (copySaga_con v.saga h.saga.steps.len) (fun _ => rfl) ?_
  conv => whnf
  refine callU (copyRec_con v.write h.write) (fun _ => rfl) ?_
  conv => whnf
  exact finA ⟨rfl⟩
theorem copyLedgersO_con (l : List Ledger) (hl : l.length * 56 ≤ 140737488351232) (hr : ∀ r ∈ l, r.Ok) : Con P 47 [.lf (.pv (encLedgers l))] (.lf (.own 0 l.length)) [.arr 47 3 (l.map Ledger.enc)] := by
  refine ConG.con (ConG.of T_ok Tryz.func47 rfl (by kernel_rfl) (by kernel_rfl) (aw_of T_ok (by kernel_rfl) ?_)) rfl
  conv => whnf
  refine AW.loop (fun k : Nat => k ≤ l.length) (fun k => [(0, .lf (.pv (encLedgers l))), (3, .lf (.own 0 k)), (4, Go.Rx.I k)]) (fun k => [.arr 47 3 ((l.take k).map Ledger.enc)]) (fun k => l.length - k) [.slot 3 47 3] ?_ ?_
  · exact ⟨rfl, 0, Nat.zero_le _, ⟨rfl, rfl, rfl, trivial⟩, ⟨[], rfl⟩, rfl, rfl⟩
  · intro k hk
    refine aw_of T_ok (by kernel_rfl) ?_
    conv => whnf
    split <;> rename_i hlt <;> conv => whnf
    · have hkl : k < l.length := by simp at hlt; omega
      refine ⟨by omega, (l[k]).enc, by simp [hkl], ?_⟩
      conv => whnf
      refine callU (copyLedger_con l[k] (hr _ (List.getElem_mem hkl))) (fun _ => rfl) ?_
      conv => whnf
      refine ⟨rfl, _, .inl rfl, ?_⟩
      conv => whnf
      refine ⟨by simp; omega, by show (k + 1) * 56 ≤ _; omega, ?_⟩
      conv => whnf
      refine ⟨k + 1, ⟨by omega, by omega⟩, ⟨rfl, rfl, congrArg Go.Rx.I (wrapI (by omega)), trivial⟩, ⟨[?r], ?e⟩, rfl, rfl⟩
      case e => show _ = [Blk.arr _ _ (List.map Ledger.enc (l.take (k + 1)))] ++ [_]; rw [take_succ' hkl, List.map_append]; rfl
    · have hkl : k = l.length := by simp at hlt; omega
      subst hkl
      refine ⟨[], [0], [.lf (.own 0 l.length)], [.lf (.own 0 l.length)], rfl, ?_, rfl, wk_refl _, rfl⟩
      show some [Blk.arr _ 3 ((l.take l.length).map Ledger.enc)] = _
      rw [List.take_length]
theorem copyLivesO_con (l : List Live) (hl : l.length * 200 ≤ 140737488351232) (hr : ∀ r ∈ l, r.Ok) : Con P 48 [.lf (.pv (encLives l))] (.lf (.own 0 l.length)) [.arr 44 18 (l.map Live.enc)] := by
  refine ConG.con (ConG.of T_ok Tryz.func48 rfl (by kernel_rfl) (by kernel_rfl) (aw_of T_ok (by kernel_rfl) ?_)) rfl
  conv => whnf
  refine AW.loop (fun k : Nat => k ≤ l.length) (fun k => [(0, .lf (.pv (encLives l))), (3, .lf (.own 0 k)), (4, Go.Rx.I k)]) (fun k => [.arr 44 18 ((l.take k).map Live.enc)]) (fun k => l.length - k) [.slot 3 44 18] ?_ ?_
  · exact ⟨rfl, 0, Nat.zero_le _, ⟨rfl, rfl, rfl, trivial⟩, ⟨[], rfl⟩, rfl, rfl⟩
  · intro k hk
    refine aw_of T_ok (by kernel_rfl) ?_
    conv => whnf
    split <;> rename_i hlt <;> conv => whnf
    · have hkl : k < l.length := by simp at hlt; omega
      refine ⟨by omega, (l[k]).enc, by simp [hkl], ?_⟩
      conv => whnf
      refine callU (copyLive_con l[k] (hr _ (List.getElem_mem hkl))) (fun _ => rfl) ?_
      conv => whnf
      refine ⟨rfl, _, .inl rfl, ?_⟩
      conv => whnf
      refine ⟨by simp; omega, by show (k + 1) * 200 ≤ _; omega, ?_⟩
      conv => whnf
      refine ⟨k + 1, ⟨by omega, by omega⟩, ⟨rfl, rfl, congrArg Go.Rx.I (wrapI (by omega)), trivial⟩, ⟨[?r], ?e⟩, rfl, rfl⟩
      case e => show _ = [Blk.arr _ _ (List.map Live.enc (l.take (k + 1)))] ++ [_]; rw [take_succ' hkl, List.map_append]; rfl
    · have hkl : k = l.length := by simp at hlt; omega
      subst hkl
      refine ⟨[], [0], [.lf (.own 0 l.length)], [.lf (.own 0 l.length)], rfl, ?_, rfl, wk_refl _, rfl⟩
      show some [Blk.arr _ 18 ((l.take l.length).map Live.enc)] = _
      rw [List.take_length]
theorem copyWorldO_con (w : Wd) (hw : w.Ok) : Con P 16 [encWd w] (.agg (w.own 0)) [.arr 47 3 (w.ledgers.map Ledger.enc), .arr 44 18 (w.lives.map Live.enc), .arr 3 1 (intRows w.outs)] := by
  refine ConG.con (ConG.of T_ok Tryz.func16 rfl (by kernel_rfl) (by kernel_rfl) (aw_of T_ok (by kernel_rfl) ?_)) rfl
  conv => whnf
  refine ⟨_, _, _, wk_refl _, copyLedgersO_con w.ledgers hw.gl hw.ledgers, .inr ?_⟩
  conv => whnf
  refine ⟨_, _, _, wk_refl _, copyLivesO_con w.lives hw.ll hw.lives, .inr ?_⟩
  conv => whnf
  refine ⟨_, _, _, wk_refl _, copyNumbersO_con w.outs hw.ol, .inr ?_⟩
  conv => whnf
  exact ⟨[], [3, 4, 5], _, _, rfl, rfl, rfl, wk_refl _, rfl⟩
theorem copyWorld_con (w : Wd) (hw : w.Ok) : Con P 16 [encWd w] (encWd w) [] := by
  refine Con.of T_ok Tryz.func16 rfl (by kernel_rfl) (by kernel_rfl) (aw_of T_ok (by kernel_rfl) ?_)
  conv => whnf
  refine ⟨_, _, _, wk_refl _, copyLedgersO_con w.ledgers hw.gl hw.ledgers, .inr ?_⟩
  conv => whnf
  refine ⟨_, _, _, wk_refl _, copyLivesO_con w.lives hw.ll hw.lives, .inr ?_⟩
  conv => whnf
  refine ⟨_, _, _, wk_refl _, copyNumbersO_con w.outs hw.ol, .inr ?_⟩
  conv => whnf
  refine ⟨List.length_map .., ?_⟩
  conv => whnf
  refine ⟨List.length_map .., ?_⟩
  conv => whnf
  refine ⟨List.length_map .., ?_⟩
  conv => whnf
  exact finA ⟨rfl⟩
end Go.Proofs.YtfjllfjmggooeaaGreatDoor.Rx
