/- The texts of the proof, part 4, in order. -/
import Derived.Test.YteimnlmianfldaaZc
import Derived.Test.YteimnlmianfldaaZb
/- Behind each record of a saga that goes there and back: marks and needs. -/
set_option linter.unusedVariables false
set_option linter.unusedSimpArgs false
namespace Go.Rx
/-- The record that the law asks next. -/
def recM (s : Saga) (n i : Nat) : Rec :=
  if s.back then ⟨5, 3, IntKind.i64.wrap (s.left - 1), ⟨#[]⟩, ⟨#[]⟩, []⟩ else if s.out then (if n < i then ⟨4, 3, 0, ⟨#[]⟩, ⟨#[]⟩, []⟩ else ⟨3, 3, s.done, ⟨#[]⟩, ⟨#[]⟩, []⟩) else ⟨2, 3, s.done, ⟨#[]⟩, ⟨#[]⟩, []⟩
def stM (n : Nat) : Nat → Saga
  | 0 => roadS n
  | i + 1 => (apply9S (stM n i) (recM (stM n i) n i)).1
def goM (n i : Nat) : Bool := !(sagaB (stM n i)) || ((apply9S (stM n i) (recM (stM n i) n i)).2 != 0 || (i + 1 == 2 * n + 2 || sagaB (stM n (i + 1))))
theorem goM_all : ((List.range 5).all fun n => sagaB (roadS (n + 1)) && (List.range (2 * (n + 1) + 2)).all (goM (n + 1))) = true := by kernel_rfl
theorem goM_go {n i : Nat} (h1 : 1 ≤ n) (h2 : n ≤ 5) (hi : i < 2 * n + 2) (hs : sagaB (stM n i) = true) (he : (apply9S (stM n i) (recM (stM n i) n i)).2 = 0) : i + 1 = 2 * n + 2 ∨ sagaB (stM n (i + 1)) = true := by
  have := List.all_eq_true.1 goM_all (n - 1) (List.mem_range.2 (by omega))
  rw [Nat.sub_add_cancel h1, Bool.and_eq_true] at this
  have h := List.all_eq_true.1 this.2 i (List.mem_range.2 hi)
  rw [goM, hs, he] at h
  simpa using h
theorem goM_0 {n : Nat} (h1 : 1 ≤ n) (h2 : n ≤ 5) : sagaB (roadS n) = true := by
  have := List.all_eq_true.1 goM_all (n - 1) (List.mem_range.2 (by omega))
  rw [Nat.sub_add_cancel h1, Bool.and_eq_true] at this
  exact this.1
theorem next_keep (s : Saga) (r : Rec) : (nextS s r).key = s.key ∧ (nextS s r).body = s.body ∧ (nextS s r).steps = s.steps := by
  rw [nextS]; repeat' split
  all_goals exact ⟨rfl, rfl, rfl⟩
theorem next_ok {s : Saga} {r : Rec} (h : s.Ok) : (nextS s r).Ok := by
  obtain ⟨h1, h2, h3⟩ := next_keep s r
  exact ⟨by rw [h1]; exact h.key, by rw [h2]; exact h.body, by rw [h3]; exact h.steps⟩
theorem zS_ok : zS.Ok := ⟨by decide, by decide, ⟨by decide, by intro x hx; cases hx⟩⟩
theorem apply9_ok {s : Saga} {r : Rec} (h : s.Ok) : (apply9S s r).1.Ok := by
  rw [apply9S]; split
  · exact zS_ok
  split
  · exact next_ok h
  · exact zS_ok
theorem road_ok (n : Nat) (h : n ≤ 5) : (roadS n).Ok := by
  refine ⟨by show (1 : Nat) ≤ _; decide, by show (1 : Nat) ≤ _; decide, ⟨by show (roadL n).length * 80 ≤ _; rw [road_len]; omega, ?_⟩⟩
  intro x hx
  obtain ⟨i, _, rfl⟩ := List.mem_map.1 (show x ∈ (List.range n).map roadT from hx)
  exact ⟨by show (1 : Nat) ≤ _; decide, by show (4 : Nat) ≤ _; decide, by show (6 : Nat) ≤ _; decide, by show (1 : Nat) ≤ _; decide⟩
theorem stM_ok (n : Nat) (h : n ≤ 5) : ∀ i, (stM n i).Ok
  | 0 => road_ok n h
  | i + 1 => apply9_ok (stM_ok n h i)
theorem apply9_err (s : Saga) (r : Rec) : -9223372036854775808 ≤ (apply9S s r).2 ∧ (apply9S s r).2 ≤ 9223372036854775807 := by
  rw [apply9S]; repeat' split
  all_goals (simp only; omega)
theorem recM_ok (s : Saga) (n i : Nat) : (recM s n i).Ok := by
  rw [recM]; repeat' split
  all_goals exact okr _ _ _
theorem recM_kind (s : Saga) (n i : Nat) : (recM s n i).kind ≠ 6 := by
  rw [recM]; repeat' split
  all_goals (simp only; omega)
end Go.Rx
namespace Go.Proofs.Yteimnlmianfldaa.Rx
open Go.Rx Go.Proofs Go.Proofs.Yteimnlmianfldaa.RxH

end Go.Proofs.Yteimnlmianfldaa.Rx

/- A saga that goes there, and back: the law that it is committed, or undone. -/
set_option linter.unusedVariables false
set_option linter.unusedSimpArgs false
namespace Go.Rx
def crd (k n : Int) : Rec := ⟨k, 3, n, ⟨#[]⟩, ⟨#[]⟩, []⟩
def goL (m : Nat) : List Rec := (List.range m).flatMap fun (i : Nat) => [crd 2 i, crd 3 i]
theorem goL_succ (m : Nat) : goL (m + 1) = goL m ++ [crd 2 m, crd 3 m] := by rw [goL, List.range_succ, List.flatMap_append]; simp [goL]
theorem goL_len (m : Nat) : (goL m).length = 2 * m := by
  induction m with
  | zero => rfl
  | succ m ih => rw [goL_succ, List.length_append, ih]; simp; omega
def backL (stop m : Nat) : List Rec := (List.range m).map fun (j : Nat) => crd 5 ((stop : Int) - j)
theorem backL_succ (stop m : Nat) : backL stop (m + 1) = backL stop m ++ [crd 5 ((stop : Int) - m)] := by rw [backL, List.range_succ, List.map_append]; rfl
theorem backL_len (stop m : Nat) : (backL stop m).length = m := by simp [backL]
def roadsL (n stop least : Nat) : List Rec := if stop = n then goL stop ++ [crd 6 1] else goL stop ++ [crd 2 stop, crd 4 0] ++ backL stop (stop + 1 - least) ++ [crd 6 (if 0 < least then 3 else 2)]
def runR : Saga → List Rec → Bool × Saga
  | s, [] => (true, s)
  | s, r :: l => if ((applyS s r).2 == 0 && sagaB (applyS s r).1) = true then runR (applyS s r).1 l else (false, s)
def goR (n stop least : Nat) : Bool := let q := runR (roadS n) (roadsL n stop least); q.1 && (q.2.status != 0 && (sagaB q.2 && roomI q.2 == 0))
theorem goR_all : ((List.range 5).all fun n => (List.range (n + 2)).all fun stop => (List.range (stop + 1)).all fun least => goR (n + 1) stop least) = true := by kernel_rfl
theorem goR_of {n stop least : Nat} (h1 : 1 ≤ n) (h2 : n ≤ 5) (h3 : stop ≤ n) (h4 : least ≤ stop) : goR n stop least = true := by
  have h := List.all_eq_true.1 goR_all (n - 1) (List.mem_range.2 (by omega))
  have h := List.all_eq_true.1 h stop (List.mem_range.2 (by omega))
  have h := List.all_eq_true.1 h least (List.mem_range.2 (by omega))
  rwa [Nat.sub_add_cancel h1] at h
theorem runR_go {s : Saga} {r : Rec} {l : List Rec} (h : (runR s (r :: l)).1 = true) : (applyS s r).2 = 0 ∧ sagaB (applyS s r).1 = true ∧ runR s (r :: l) = runR (applyS s r).1 l := by
  rw [runR] at h ⊢
  split at h
  · rename_i hc
    rw [if_pos hc]
    simp at hc
    exact ⟨hc.1, hc.2, rfl⟩
  · cases h
theorem apply_ok {s : Saga} {r : Rec} (h : s.Ok) : (applyS s r).1.Ok := by
  rw [applyS]; repeat' split
  all_goals first | exact zS_ok | exact next_ok h
theorem crd_ok (k n : Int) : (crd k n).Ok := okr k 3 n
/-- A record without steps, as it is built: its steps are nil. -/
abbrev crdE (r : Rec) : List PV := [pI r.kind, pI r.id, pI r.n, pS r.key, pS r.body, .sc (.slice none 0 0)]
/-- Records that go: of one saga, to an end. -/
structure Goes (n : Nat) (l : List Rec) : Prop where
  run : (runR (roadS n) l).1 = true
  st : (runR (roadS n) l).2.status ≠ 0
  may : sagaB (runR (roadS n) l).2 = true
  room : roomI (runR (roadS n) l).2 = 0
  each : ∀ r ∈ l, ∃ k m, r = crd k m
  len : l.length ≤ 1000
theorem goes_of {n stop least : Nat} (h1 : 1 ≤ n) (h2 : n ≤ 5) (h3 : stop ≤ n) (h4 : least ≤ stop) : Goes n (roadsL n stop least) := by
  have h := goR_of h1 h2 h3 h4
  unfold goR at h
  simp only [Bool.and_eq_true, bne_iff_ne, ne_eq, beq_iff_eq] at h
  have e0 : ∀ r ∈ goL stop, ∃ k m, r = crd k m := fun r hr => by
    unfold goL at hr
    simp only [List.mem_flatMap, List.mem_cons, List.not_mem_nil, or_false] at hr
    obtain ⟨i, _, h | h⟩ := hr <;> exact ⟨_, _, h⟩
  refine ⟨h.1, h.2.1, h.2.2.1, h.2.2.2, fun r hr => ?_, by unfold roadsL; split <;> simp [goL_len, backL_len] <;> omega⟩
  unfold roadsL at hr
  split at hr
  · simp only [List.mem_append, List.mem_cons, List.not_mem_nil, or_false] at hr
    rcases hr with hr | hr
    · exact e0 r hr
    · exact ⟨_, _, hr⟩
  · simp only [List.mem_append, List.mem_cons, List.not_mem_nil, or_false] at hr
    rcases hr with ((hr | hr | hr) | hr) | hr
    · exact e0 r hr
    · exact ⟨_, _, hr⟩
    · exact ⟨_, _, hr⟩
    · unfold backL at hr
      obtain ⟨j, _, rfl⟩ := List.mem_map.1 hr
      exact ⟨_, _, rfl⟩
    · exact ⟨_, _, hr⟩
end Go.Rx
namespace Go.Proofs.Yteimnlmianfldaa.Rx
open Go.Rx Go.Proofs Go.Proofs.Yteimnlmianfldaa.RxH

end Go.Proofs.Yteimnlmianfldaa.Rx

/- All records of a saga's number, behind those of a script. -/
set_option linter.unusedVariables false
set_option linter.unusedSimpArgs false
namespace Go.Rx
def recK (id k n : Int) : Rec := ⟨k, id, n, ⟨#[]⟩, ⟨#[]⟩, []⟩
def kindL (id : Int) (a m : Nat) : List Rec := (List.range m).map fun (n : Nat) => recK id ((a + 2 : Nat) : Int) n
def exL (id : Int) (m : Nat) : List Rec := (List.range m).flatMap fun a => kindL id a 5
def recsL (R : List Rec) (id : Int) : List Rec := R.take 6 ++ exL id 5
theorem kindL_succ (id : Int) (a m : Nat) : kindL id a (m + 1) = kindL id a m ++ [recK id ((a + 2 : Nat) : Int) m] := by rw [kindL, List.range_succ, List.map_append]; rfl
theorem kindL_len (id : Int) (a m : Nat) : (kindL id a m).length = m := by simp [kindL]
theorem exL_succ (id : Int) (m : Nat) : exL id (m + 1) = exL id m ++ kindL id m 5 := by rw [exL, List.range_succ, List.flatMap_append]; simp [exL]
theorem exL_len (id : Int) (m : Nat) : (exL id m).length = 5 * m := by
  induction m with
  | zero => rfl
  | succ m ih => rw [exL_succ, List.length_append, ih, kindL_len]; omega
theorem exL_mem {id : Int} {m : Nat} {r : Rec} (h : r ∈ exL id m) : ∃ k n, r = recK id k n := by
  unfold exL at h
  simp only [List.mem_flatMap] at h
  obtain ⟨a, _, h⟩ := h
  obtain ⟨n, _, rfl⟩ := List.mem_map.1 h
  exact ⟨_, _, rfl⟩
theorem recK_ok (id k n : Int) : (recK id k n).Ok := okr k id n
theorem fa_mem {α β : Type} {R : β → β → Prop} {f g : α → β} : ∀ {l : List α}, (∀ a ∈ l, R (f a) (g a)) → Fa R (l.map f) (l.map g)
  | [], _ => trivial
  | a :: l, h => ⟨h a (by simp), fa_mem fun b hb => h b (by simp [hb])⟩
theorem ex_rows (id : Int) (m : Nat) : Fa (Fa WkP) ((exL id m).map crdE) ((exL id m).map Rec.enc) := fa_mem fun r hr => by
  obtain ⟨k, n, rfl⟩ := exL_mem hr
  exact ⟨wkPE _, wkPE _, wkPE _, wkPE _, wkPE _, wkPN 6, trivial⟩
theorem recs_rows (R : List Rec) (id : Int) : Fa (Fa WkP) ((R.take 6).map Rec.enc ++ (exL id 5).map crdE) ((recsL R id).map Rec.enc) := by
  rw [recsL, List.map_append]
  exact Fa.append (fa_refl (fa_refl wkPE) _) (ex_rows id 5)
theorem recs_len (R : List Rec) (id : Int) : (recsL R id).length ≤ 31 ∧ 25 ≤ (recsL R id).length := by
  rw [recsL, List.length_append, exL_len, List.length_take]; omega
theorem recs_ok {R : List Rec} (h : ∀ r ∈ R, r.Ok) (id : Int) : ∀ r ∈ recsL R id, r.Ok := fun r hr => by
  rw [recsL, List.mem_append] at hr
  rcases hr with hr | hr
  · exact h r (List.mem_of_mem_take hr)
  · obtain ⟨k, n, rfl⟩ := exL_mem hr
    exact recK_ok id k n
end Go.Rx
namespace Go.Proofs.Yteimnlmianfldaa.Rx
open Go.Rx Go.Proofs Go.Proofs.Yteimnlmianfldaa.RxH

theorem copyRec_con (r : Rec) (h : r.Ok) : Con P 18 [encRec r] (encRec r) [] := by
  refine Con.of T_ok Try.func18 rfl (by kernel_rfl) (by kernel_rfl) (aw_of T_ok (by kernel_rfl) ?_)
  conv => whnf
  refine callU (copySteps_con _ h.steps.len) (fun _ => rfl) ?_
  conv => whnf
  exact finA ⟨rfl⟩
theorem copyRecsO_con (l : List Rec) (hl : l.length * 80 ≤ 140737488351232) (hr : ∀ r ∈ l, r.Ok) : Con P 8 [.lf (.pv (encRecs l))] (.lf (.own 0 l.length)) [.arr 39 6 (l.map Rec.enc)] := by
  refine ConG.con (ConG.of T_ok Try.func8 rfl (by kernel_rfl) (by kernel_rfl) (aw_of T_ok (by kernel_rfl) ?_)) rfl
  conv => whnf
  refine AW.loop (fun k : Nat => k ≤ l.length) (fun k => [(0, .lf (.pv (encRecs l))), (3, .lf (.own 0 k)), (4, Go.Rx.I k)]) (fun k => [.arr 39 6 ((l.take k).map Rec.enc)]) (fun k => l.length - k) [.slot 3 39 6] ?_ ?_
  · exact ⟨rfl, 0, Nat.zero_le _, ⟨rfl, rfl, rfl, trivial⟩, ⟨[], rfl⟩, rfl, rfl⟩
  · intro k hk
    refine aw_of T_ok (by kernel_rfl) ?_
    conv => whnf
    split <;> rename_i hlt <;> conv => whnf
    · have hkl : k < l.length := by simp at hlt; omega
      refine ⟨by omega, (l[k]).enc, by simp [hkl], ?_⟩
      conv => whnf
      refine callU (copyRec_con l[k] (hr _ (List.getElem_mem hkl))) (fun _ => rfl) ?_
      conv => whnf
      refine ⟨rfl, _, .inl rfl, ?_⟩
      conv => whnf
      refine ⟨by simp; omega, by show (k + 1) * 80 ≤ _; omega, ?_⟩
      conv => whnf
      refine ⟨k + 1, ⟨by omega, by omega⟩, ⟨rfl, rfl, congrArg Go.Rx.I (wrapI (by omega)), trivial⟩, ⟨[?r], ?e⟩, rfl, rfl⟩
      case e => show _ = [Blk.arr _ _ (List.map Rec.enc (l.take (k + 1)))] ++ [_]; rw [take_succ' hkl, List.map_append]; rfl
    · have hkl : k = l.length := by simp at hlt; omega
      subst hkl
      refine ⟨[], [0], [.lf (.own 0 l.length)], [.lf (.own 0 l.length)], rfl, ?_, rfl, wk_refl _, rfl⟩
      show some [Blk.arr _ 6 ((l.take l.length).map Rec.enc)] = _
      rw [List.take_length]
end Go.Proofs.Yteimnlmianfldaa.Rx

/- What a record makes of a saga: it ends. -/
set_option linter.unusedVariables false
set_option linter.unusedSimpArgs false
namespace Go.Rx
structure Parts (s : Saga) : Prop where
  rc : recB (begR s) = true
  d0 : 0 ≤ s.done
  d1 : s.done ≤ s.steps.length
  ou : s.out = true → ¬ s.done = s.steps.length
  l0 : 0 ≤ s.left
  l1 : s.left ≤ mostI s
  bk : s.back = false → s.left = 0
  en : endsB s s.status = true
theorem parts_iff {s : Saga} : sagaB s = true ↔ Parts s := by
  constructor
  · intro h
    simp only [sagaB, Bool.and_eq_true, decide_eq_true_eq, Bool.not_eq_true', Bool.and_eq_false_iff, bne_eq_false_iff_eq, beq_eq_false_iff_ne, Bool.not_eq_false'] at h
    obtain ⟨h1, h2, h3, h4, h5, h6, h7, h8⟩ := h
    refine ⟨h1, h2, h3, fun e => ?_, h5, h6, fun e => ?_, h8⟩
    · rcases h4 with h4 | h4
      · rw [e] at h4; cases h4
      · exact h4
    · rcases h7 with h7 | h7
      · rw [e] at h7; cases h7
      · exact h7
  · intro h
    simp only [sagaB, Bool.and_eq_true, decide_eq_true_eq, Bool.not_eq_true', Bool.and_eq_false_iff, bne_eq_false_iff_eq, beq_eq_false_iff_ne, Bool.not_eq_false']
    refine ⟨h.rc, h.d0, h.d1, ?_, h.l0, h.l1, ?_, h.en⟩
    · cases ho : s.out
      · exact .inl rfl
      · exact .inr (h.ou ho)
    · cases hb : s.back
      · exact .inr (h.bk hb)
      · exact .inl rfl
theorem parts_len {s : Saga} (h : Parts s) : 1 ≤ s.steps.length ∧ s.steps.length ≤ 5 ∧ 1 ≤ s.id ∧ s.id ≤ 20 := by
  have h1 := h.rc
  rw [recB, Bool.and_eq_true, if_pos rfl, begB] at h1
  simp only [Bool.and_eq_true, decide_eq_true_eq] at h1
  obtain ⟨⟨h2, h3⟩, _, _, _, _, _, h4⟩ := h1
  rw [stepsB] at h4
  simp only [Bool.and_eq_true, decide_eq_true_eq] at h4
  exact ⟨h4.2.1, h4.2.2, h2, h3⟩
def needN (s : Saga) : Int := if s.back then s.left + 1 else if s.out then 2 * (s.steps.length - s.done) + s.steps.length + 1 else 2 * (s.steps.length - s.done) + s.steps.length + 2
theorem most_le {s : Saga} (h : Parts s) : mostI s ≤ 6 := by
  have := parts_len h
  have := h.d1
  unfold mostI; split <;> omega
theorem room_eq {s : Saga} (h : Parts s) : roomI s = if s.status = 0 then 24 * needN s else 0 := by
  have hl := parts_len h
  have h0 := h.d0
  have h1 := h.d1
  have h2 := h.l0
  have h3 := h.l1
  have h4 := most_le h
  unfold roomI
  split
  · unfold needN nI
    rw [wrapI (n := (s.steps.length : Int) - s.done) (by omega), wrapI (n := 2 * ((s.steps.length : Int) - s.done)) (by omega), wrapI (n := 2 * ((s.steps.length : Int) - s.done) + s.steps.length) (by omega), wrapI (n := 2 * ((s.steps.length : Int) - s.done) + s.steps.length + 2) (by omega)]
    split
    · rw [wrapI (n := s.left + 1) (by omega), wrapI (by omega)]
    split
    · rw [wrapI (n := 2 * ((s.steps.length : Int) - s.done) + s.steps.length + 2 - 1) (by omega), wrapI (by omega)]; omega
    · rw [wrapI (by omega)]
  · rfl
theorem need_low {s : Saga} (h : Parts s) : 1 ≤ needN s ∧ needN s ≤ 17 := by
  have hl := parts_len h
  have h0 := h.d0
  have h1 := h.d1
  have h2 := h.l0
  have h3 := h.l1
  have h4 := most_le h
  unfold needN; repeat' split
  all_goals omega
/-- A record that applies: it may be, it is the saga's, the saga goes on, it fits. -/
theorem apply_went {s : Saga} {r : Rec} (hs : sagaB s = true) (he : (applyS s r).2 = 0) : recB r = true ∧ r.id = s.id ∧ s.status = 0 ∧ fitsB s r = true ∧ (applyS s r).1 = nextS s r := by
  unfold applyS at he ⊢
  split at he
  · cases he
  rename_i h1
  split at he
  · cases he
  rename_i h2
  split at he
  · rename_i h3
    rw [if_neg h1, if_neg h2, if_pos h3]
    simp only [Bool.and_eq_true, beq_iff_eq] at h3
    simp only [Bool.or_eq_true, Bool.not_eq_true', not_or, Bool.not_eq_false] at h1
    exact ⟨h1.2, h3.1, h3.2.1, h3.2.2, rfl⟩
  · cases he
theorem apply_goes {s : Saga} {r : Rec} (hs : sagaB s = true) (h1 : recB r = true) (h2 : r.id = s.id) (h3 : s.status = 0) (h4 : fitsB s r = true) : (applyS s r).2 = 0 := by
  unfold applyS
  rw [if_neg (by rw [hs, h1]; decide), if_neg (by rw [h2]; simp), if_pos (by rw [h2, h3, h4]; simp)]
structure Good (s x : Saga) : Prop where
  may : sagaB x = true
  room : roomI x ≤ roomI s - 24
  st : s.status = 0
  d0 : s.done ≤ x.done
  d1 : x.done ≤ s.done + 1
  bk : s.back = true → x.back = true
  lf : s.back = true → x.left ≤ s.left
theorem good_of {s x : Saga} (hp : Parts s) (hst : s.status = 0) (hx : Parts x) (hn : x.status = 0 → needN x + 1 ≤ needN s) (h1 : s.done ≤ x.done) (h2 : x.done ≤ s.done + 1) (h3 : s.back = true → x.back = true) (h4 : s.back = true → x.left ≤ s.left) : Good s x := by
  refine ⟨parts_iff.2 hx, ?_, hst, h1, h2, h3, h4⟩
  rw [room_eq hp, room_eq hx, if_pos hst]
  have := (need_low hp).1
  split
  · rename_i e; have := hn e; omega
  · omega
theorem kind_n {r : Rec} (h : recB r = true) (k : r.kind = 2 ∨ r.kind = 3 ∨ r.kind = 5) : 0 ≤ r.n ∧ r.n < 5 := by
  rw [recB, Bool.and_eq_true] at h
  have h2 := h.2
  rw [if_neg (by omega), Bool.and_eq_true] at h2
  have h3 := h2.2
  rw [kindB, if_pos k] at h3
  simpa using h3
theorem apply_good {s : Saga} {r : Rec} (hs : sagaB s = true) (he : (applyS s r).2 = 0) : Good s (applyS s r).1 := by
  obtain ⟨hr, hid, hst, hf, hx⟩ := apply_went hs he
  rw [hx]
  have hp := parts_iff.1 hs
  have hl := parts_len hp
  have hml := most_le hp
  have p0 := hp.d0
  have p1 := hp.d1
  have p2 := hp.l0
  have p3 := hp.l1
  have p4 := hp.ou
  have p5 := hp.bk
  have p6 := hp.en
  have p7 := hp.rc
  obtain ⟨id, key, body, steps, done, out, back, left, status⟩ := s
  simp only at hst hid hl p0 p1 p2 p3 p4 p5
  subst hst
  unfold fitsB at hf
  split at hf
  · rename_i hk
    simp only [Bool.and_eq_true, Bool.not_eq_true', beq_iff_eq, decide_eq_true_eq] at hf
    obtain ⟨rfl, rfl, hn, hlt⟩ := hf
    have hl0 := p5 rfl
    rw [nextS, if_pos hk]
    exact good_of hp rfl ⟨p7, p0, p1, fun _ => by simp only; omega, p2, by simp only [mostI, if_true]; omega, fun _ => hl0, rfl⟩ (fun _ => by simp [needN]; omega) (by simp only; omega) (by simp only; omega) (fun e => e) (fun e => by cases e)
  split at hf
  · rename_i hk2 hk
    simp only [Bool.and_eq_true, Bool.not_eq_true', beq_iff_eq] at hf
    obtain ⟨rfl, rfl, hn⟩ := hf
    have hl0 := p5 rfl
    have hne := p4 rfl
    rw [nextS, if_neg hk2, if_pos hk]
    dsimp only
    rw [wrapI (n := done + 1) (by omega)]
    exact good_of hp rfl ⟨p7, by simp only; omega, by simp only; omega, fun e => (by cases e), p2, by simp only [mostI]; simp; omega, fun _ => hl0, rfl⟩ (fun _ => by simp [needN]; omega) (by simp only; omega) (by simp only; omega) (fun e => e) (fun e => by cases e)
  split at hf
  · rename_i hk2 hk3 hk
    simp only [Bool.and_eq_true, Bool.not_eq_true'] at hf
    obtain ⟨rfl, rfl⟩ := hf
    have hne := p4 rfl
    rw [nextS, if_neg hk2, if_neg hk3, if_pos hk]
    dsimp only
    rw [wrapI (n := done + 1) (by omega)]
    exact good_of hp rfl ⟨p7, p0, p1, fun _ => hne, by simp only; omega, by simp only [mostI, if_true]; omega, fun e => (by cases e), rfl⟩ (fun _ => by simp [needN]; omega) (by simp only; omega) (by simp only; omega) (fun _ => rfl) (fun e => by cases e)
  split at hf
  · rename_i hk2 hk3 hk4 hk
    simp only [Bool.and_eq_true, beq_iff_eq] at hf
    obtain ⟨rfl, hn⟩ := hf
    have hnn := kind_n hr (.inr (.inr hk))
    simp only [mostI] at p3 hml
    rw [wrapI (by omega)] at hn
    rw [nextS, if_neg hk2, if_neg hk3, if_neg hk4, if_pos hk]
    exact good_of hp rfl ⟨p7, p0, p1, p4, by simp only; omega, by simp only [mostI]; omega, fun e => (by cases e), rfl⟩ (fun _ => by simp [needN]; omega) (by simp only; omega) (by simp only; omega) (fun _ => rfl) (fun _ => by simp only; omega)
  split at hf
  · rename_i hk2 hk3 hk4 hk5 hk
    have hnn := rec_end hr hk
    rw [nextS, if_neg hk2, if_neg hk3, if_neg hk4, if_neg hk5]
    exact good_of hp rfl ⟨p7, p0, p1, p4, p2, p3, p5, hf⟩ (fun e => by simp only at e; omega) (by simp only; omega) (by simp only; omega) (fun e => e) (fun _ => by simp only; omega)
  · cases hf
theorem ex_at {id : Int} {a n : Nat} (ha : a < 5) (hn : n < 5) : recK id ((a + 2 : Nat) : Int) n ∈ exL id 5 := by
  unfold exL
  rw [List.mem_flatMap]
  exact ⟨a, List.mem_range.2 ha, List.mem_map.2 ⟨n, List.mem_range.2 hn, rfl⟩⟩
theorem recK_may {id k n : Int} (h : 1 ≤ id ∧ id ≤ 20) (h1 : ¬ k = 1) (hk : kindB k n = true) : recB (recK id k n) = true := by
  rw [recB, Bool.and_eq_true]
  refine ⟨by show (decide (1 ≤ id) && decide (id ≤ 20)) = true; simp [h], ?_⟩
  show (if k = 1 then _ else _ : Bool) = true
  rw [if_neg h1, Bool.and_eq_true]
  exact ⟨rfl, hk⟩
theorem some_goes {s : Saga} (R : List Rec) (hs : sagaB s = true) (hst : s.status = 0) : ∃ r ∈ recsL R s.id, (applyS s r).2 = 0 := by
  have hp := parts_iff.1 hs
  have hl := parts_len hp
  have hid : 1 ≤ s.id ∧ s.id ≤ 20 := ⟨hl.2.2.1, hl.2.2.2⟩
  have p0 := hp.d0
  have p1 := hp.d1
  have p2 := hp.l0
  have p3 := hp.l1
  have hml := most_le hp
  have mem : ∀ {r : Rec}, r ∈ exL s.id 5 → r ∈ recsL R s.id := fun h => List.mem_append_right _ h
  have goes : ∀ (a n : Nat), a < 5 → n < 5 → kindB ((a + 2 : Nat) : Int) n = true → fitsB s (recK s.id ((a + 2 : Nat) : Int) n) = true → ∃ r ∈ recsL R s.id, (applyS s r).2 = 0 := fun a n ha hn hk hf =>
    ⟨_, mem (ex_at ha hn), apply_goes hs (recK_may hid (by omega) hk) rfl hst hf⟩
  cases hb : s.back with
  | true =>
    by_cases h0 : s.left = 0
    · exact goes 4 2 (by decide) (by decide) rfl (by
        show endsB s 2 = true
        rw [endsB, hb, h0]; rfl)
    · have hmost : mostI s ≤ 5 := by
        unfold mostI at *
        split
        · rename_i ho; have := hp.ou ho; omega
        · omega
      refine goes 3 (s.left - 1).toNat (by decide) (by omega) ?_ ?_
      · show kindB 5 _ = true
        rw [kindB, if_pos (.inr (.inr rfl))]
        simp; omega
      · show (s.back && (((s.left - 1).toNat : Int) == IntKind.i64.wrap (s.left - 1))) = true
        rw [hb, wrapI (by omega)]
        simp; omega
  | false =>
    cases ho : s.out with
    | true =>
      have hne := hp.ou ho
      refine goes 1 s.done.toNat (by decide) (by omega) ?_ ?_
      · show kindB 3 _ = true
        rw [kindB, if_pos (.inr (.inl rfl))]
        simp; omega
      · show (!s.back && (s.out && (((s.done.toNat : Nat) : Int) == s.done))) = true
        rw [hb, ho]
        simp; omega
    | false =>
      by_cases hd : s.done = s.steps.length
      · exact goes 4 1 (by decide) (by decide) rfl (by
          show endsB s 1 = true
          rw [endsB, hb, ho, hd]; simp)
      · refine goes 0 s.done.toNat (by decide) (by omega) ?_ ?_
        · show kindB 2 _ = true
          rw [kindB, if_pos (.inl rfl)]
          simp; omega
        · show (!s.back && (!s.out && ((((s.done.toNat : Nat) : Int) == s.done) && decide (s.done < s.steps.length)))) = true
          rw [hb, ho]
          simp; omega
end Go.Rx

/- All sagas of records, in plain Lean: which record goes behind which sagas, and what they are then. -/
set_option linter.unusedVariables false
set_option linter.unusedSimpArgs false
namespace Go.Rx
def newS (r : Rec) : Saga := ⟨r.id, r.key, r.body, r.steps, 0, false, false, 0, 0⟩
def keyI (l : List Saga) (k : ByteArray) : Int := idxL (fun s : Saga => s.key == k) l 0
def goesB (l : List Saga) (r : Rec) : Bool :=
  if r.kind = 1 then r.id == ((l.length + 1 : Nat) : Int) && !(decide (0 ≤ keyI l r.key))
  else match l[(r.id - 1).toNat]? with | some s => r.id == s.id && (s.status == 0 && fitsB s r) | none => false
def stepL (l : List Saga) (r : Rec) : List Saga :=
  if r.kind = 1 then l ++ [newS r] else match l[(r.id - 1).toNat]? with | some s => l.set (r.id - 1).toNat (nextS s r) | none => l
def foldL : List Saga → List Rec → Option (List Saga)
  | l, [] => some l
  | l, r :: rs => if goesB l r then foldL (stepL l r) rs else none
def ofP (l : List Rec) : List Saga × Int := if l.all recB then (match foldL [] l with | some x => (x, 0) | none => ([], 10)) else ([], 1)

theorem next_id (s : Saga) (r : Rec) : (nextS s r).id = s.id := by
  rw [nextS]; repeat' split
  all_goals rfl
structure SgAt (l : List Saga) (i : Nat) (s : Saga) : Prop where
  ok : s.Ok
  may : sagaB s = true
  id : s.id = i + 1
  key : ∀ (j : Nat) (x : Saga), j < i → l[j]? = some x → x.key ≠ s.key
/-- Sagas that may be together. -/
structure Sgs (l : List Saga) : Prop where
  len : l.length ≤ 20
  sg : ∀ (i : Nat) (s : Saga), l[i]? = some s → SgAt l i s
theorem sgs_nil : Sgs [] := ⟨by decide, by intro i s h; simp at h⟩
theorem new_may {r : Rec} (h : recB r = true) (k : r.kind = 1) : sagaB (newS r) = true := by
  have hb : begR (newS r) = r := by
    have hn : r.n = 0 := by
      unfold recB at h
      rw [if_pos k, Bool.and_eq_true] at h
      have := h.2
      unfold begB at this
      rw [Bool.and_eq_true] at this
      exact eq_of_beq this.1
    cases r
    simp only at hn k
    subst hn; subst k; rfl
  have hlen : 1 ≤ r.steps.length := by
    unfold recB at h
    rw [if_pos k, Bool.and_eq_true] at h
    have := h.2
    unfold begB at this
    simp only [Bool.and_eq_true, stepsB, decide_eq_true_eq] at this
    exact this.2.2.2.2.2.2.1
  rw [sagaB, hb, h]
  simp [newS, mostI, endsB]
theorem new_ok {r : Rec} (h : r.Ok) : (newS r).Ok := ⟨h.key, h.body, h.steps⟩
theorem idx_neg {α : Type} {p : α → Bool} {l : List α} {k : Nat} : idxL p l k < 0 ↔ ∀ x ∈ l, p x = false := by
  have h := idx_any (p := p) l k
  constructor
  · intro hn x hx
    have e : l.any p = false := by rw [← h, decide_eq_false_iff_not]; omega
    exact Bool.eq_false_iff.2 (List.any_eq_false.1 e x hx)
  · intro hx
    have e : l.any p = false := List.any_eq_false.2 fun x hm => by rw [hx x hm]; decide
    rw [← h, decide_eq_false_iff_not] at e
    omega
theorem goes_begin {l : List Saga} {r : Rec} (h : goesB l r = true) (k : r.kind = 1) : r.id = ((l.length + 1 : Nat) : Int) ∧ ∀ s ∈ l, s.key ≠ r.key := by
  rw [goesB, if_pos k, Bool.and_eq_true] at h
  refine ⟨eq_of_beq h.1, fun s hs e => ?_⟩
  have h2 : keyI l r.key < 0 := by
    have := h.2
    simp only [Bool.not_eq_true', decide_eq_false_iff_not] at this
    omega
  have := idx_neg.1 h2 s hs
  rw [e] at this
  simp at this
theorem goes_on {l : List Saga} {r : Rec} (h : goesB l r = true) (k : ¬ r.kind = 1) : ∃ s, l[(r.id - 1).toNat]? = some s ∧ r.id = s.id ∧ s.status = 0 ∧ fitsB s r = true := by
  rw [goesB, if_neg k] at h
  split at h
  · rename_i s hs
    simp only [Bool.and_eq_true] at h
    exact ⟨s, hs, eq_of_beq h.1, eq_of_beq h.2.1, h.2.2⟩
  · cases h
theorem rec_id {r : Rec} (h : recB r = true) : 1 ≤ r.id ∧ r.id ≤ 20 := by
  unfold recB at h
  simp only [Bool.and_eq_true, decide_eq_true_eq] at h
  exact h.1
theorem sgs_step {l : List Saga} {r : Rec} (hl : Sgs l) (hr : recB r = true) (hok : r.Ok) (hg : goesB l r = true) : Sgs (stepL l r) := by
  have hid := rec_id hr
  by_cases k : r.kind = 1
  · obtain ⟨h1, h2⟩ := goes_begin hg k
    rw [stepL, if_pos k]
    refine ⟨by rw [List.length_append]; simp; omega, fun i s hs => ?_⟩
    rcases Nat.lt_trichotomy i l.length with hi | hi | hi
    · rw [List.getElem?_append_left hi] at hs
      have := hl.sg i s hs
      exact ⟨this.ok, this.may, this.id, fun j x hj hx => this.key j x hj (by rw [List.getElem?_append_left (by omega)] at hx; exact hx)⟩
    · subst hi
      rw [List.getElem?_append_right (Nat.le_refl _), Nat.sub_self] at hs
      simp at hs
      subst hs
      refine ⟨new_ok hok, new_may hr k, by show r.id = _; omega, fun j x hj hx => ?_⟩
      rw [List.getElem?_append_left hj] at hx
      exact h2 x (List.mem_of_getElem? hx)
    · rw [List.getElem?_eq_none (by simp; omega)] at hs; cases hs
  · obtain ⟨s0, h1, h2, h3, h4⟩ := goes_on hg k
    have h0 := hl.sg _ _ h1
    rw [stepL, if_neg k, h1]
    simp only
    refine ⟨by rw [List.length_set]; exact hl.len, fun i s hs => ?_⟩
    have hkey : ∀ (j : Nat) (x : Saga), (l.set (r.id - 1).toNat (nextS s0 r))[j]? = some x → ∃ y : Saga, l[j]? = some y ∧ x.key = y.key := fun j x hx => by
      by_cases e : (r.id - 1).toNat = j
      · subst e
        rw [List.getElem?_set_self (List.getElem?_eq_some_iff.1 h1).1] at hx
        cases hx
        exact ⟨s0, h1, (next_keep s0 r).1⟩
      · rw [List.getElem?_set_ne e] at hx
        exact ⟨x, hx, rfl⟩
    by_cases e : (r.id - 1).toNat = i
    · subst e
      rw [List.getElem?_set_self (List.getElem?_eq_some_iff.1 h1).1] at hs
      cases hs
      have happ : (applyS s0 r).2 = 0 := apply_goes h0.may hr h2 h3 h4
      have hgo := apply_good h0.may happ
      rw [(apply_went h0.may happ).2.2.2.2] at hgo
      refine ⟨next_ok h0.ok, hgo.may, by rw [next_id]; exact h0.id, fun j x hj hx => ?_⟩
      obtain ⟨y, hy, hk⟩ := hkey j x hx
      rw [hk, (next_keep s0 r).1]
      exact h0.key j y hj hy
    · rw [List.getElem?_set_ne e] at hs
      have h5 := hl.sg i s hs
      refine ⟨h5.ok, h5.may, h5.id, fun j x hj hx => ?_⟩
      obtain ⟨y, hy, hk⟩ := hkey j x hx
      rw [hk]
      exact h5.key j y hj hy
theorem sgs_fold : ∀ {rs : List Rec} {l x : List Saga}, Sgs l → (∀ r ∈ rs, recB r = true) → (∀ r ∈ rs, r.Ok) → foldL l rs = some x → Sgs x
  | [], l, x, hl, _, _, h => by simp [foldL] at h; subst h; exact hl
  | r :: rs, l, x, hl, hr, hok, h => by
    rw [foldL] at h
    split at h
    · rename_i hg
      exact sgs_fold (sgs_step hl (hr r (by simp)) (hok r (by simp)) hg) (fun y hy => hr y (by simp [hy])) (fun y hy => hok y (by simp [hy])) h
    · cases h
theorem of_sgs {l : List Rec} (hok : ∀ r ∈ l, r.Ok) : Sgs (ofP l).1 := by
  unfold ofP
  split
  · rename_i h
    split
    · rename_i x hx
      exact sgs_fold sgs_nil (fun r hr => List.all_eq_true.1 h r hr) hok hx
    · exact sgs_nil
  · exact sgs_nil
theorem of_err (l : List Rec) : -9223372036854775808 ≤ (ofP l).2 ∧ (ofP l).2 ≤ 9223372036854775807 := by
  unfold ofP; repeat' split
  all_goals (simp only; omega)
end Go.Rx

/- Sagas of records: the functions. -/
set_option linter.unusedVariables false
set_option linter.unusedSimpArgs false
namespace Go.Rx
abbrev sagasE (p : List Saga × Int) : AV := .tup [.lf (.pv (encSagas p.1)), .lf (.pv (pI p.2))]
theorem sg_small {l : List Saga} (h : Sgs l) : l.length * 96 ≤ 140737488351232 := by have := h.len; omega
end Go.Rx
namespace Go.Proofs.Yteimnlmianfldaa.Rx
open Go.Rx Go.Proofs Go.Proofs.Yteimnlmianfldaa.RxH

theorem eqSagas_con (a b : List Saga) (ha : a.length * 96 ≤ 140737488351232) (hs : ∀ s ∈ a, s.steps.length * 80 ≤ 140737488351232) : Con P 13 [.lf (.pv (encSagas a)), .lf (.pv (encSagas b))] (Bl (decide (a = b))) [] := by
  refine Con.of T_ok Try.func13 rfl (by kernel_rfl) (by kernel_rfl) (aw_of T_ok (by kernel_rfl) ?_)
  conv => whnf
  split <;> rename_i h <;> conv => whnf
  · refine retB ?_
    symm
    rw [decide_eq_false_iff_not]
    rintro rfl
    simp at h
  · have hl : a.length = b.length := by simp at h; omega
    refine AW.loop (fun k : Nat => k ≤ a.length ∧ ∀ j, j < k → a[j]? = b[j]?) (fun k => [(0, .lf (.pv (encSagas a))), (1, .lf (.pv (encSagas b))), (5, Go.Rx.I k)]) (fun _ => []) (fun k => a.length - k) [] ?_ ?_
    · exact ⟨0, ⟨Nat.zero_le _, fun j hj => absurd hj (Nat.not_lt_zero _)⟩, ⟨rfl, rfl, rfl, trivial⟩, ⟨[], rfl⟩, rfl, rfl⟩
    · rintro k ⟨hk, hpre⟩
      refine aw_of T_ok (by kernel_rfl) ?_
      conv => whnf
      split <;> rename_i hlt <;> conv => whnf
      · have hka : k < a.length := by simp at hlt; omega
        have hkb : k < b.length := by omega
        refine AW.draw T_ok rfl (seqPl 0 10) (by kernel_rfl) (by kernel_rfl) ?_
        conv => whnf
        refine ⟨by omega, (a[k]).enc, by simp [hka], ?_⟩
        conv => whnf
        refine ⟨by omega, (b[k]).enc, by simp [hkb], ?_⟩
        conv => whnf
        refine callS (eqSaga_con a[k] b[k] (hs _ (List.getElem_mem hka))) rfl ?_
        conv => whnf
        split <;> rename_i he <;> conv => whnf
        · refine finB ⟨?_⟩
          symm
          rw [decide_eq_false_iff_not]
          rintro rfl
          simp at he
        · refine ⟨k + 1, ⟨⟨by omega, fun j hj => ?_⟩, by omega⟩, ⟨rfl, rfl, congrArg Go.Rx.I (wrapI (by omega)), trivial⟩, ⟨[], rfl⟩, rfl, rfl⟩
          rcases Nat.lt_or_ge j k with hjk | hjk
          · exact hpre j hjk
          · obtain rfl : j = k := by omega
            have : a[j] = b[j] := by simpa using he
            rw [List.getElem?_eq_getElem hka, List.getElem?_eq_getElem hkb, this]
      · have hka : k = a.length := by simp at hlt; omega
        subst hka
        refine finB ⟨?_⟩
        symm
        rw [decide_eq_true_eq]
        apply List.ext_getElem?
        intro j
        rcases Nat.lt_or_ge j a.length with hj | hj
        · exact hpre j hj
        · rw [List.getElem?_eq_none hj, List.getElem?_eq_none (by omega)]
theorem keyed1_con (s : Saga) (k : ByteArray) : Con P 57 [encSaga s, .lf (.ro [pS k])] (Bl (s.key == k)) [] := by
  refine Con.of T_ok Try.func57 rfl (by kernel_rfl) (by kernel_rfl) (aw_of T_ok (by kernel_rfl) ?_)
  conv => whnf
  exact finB ⟨rfl⟩
theorem indexSg_con (l : List Saga) (x : ByteArray) (hl : l.length * 96 ≤ 140737488351232) : Con P 56 [.lf (.pv (encSagas l)), .lf (.fn 57 [[pS x]])] (I (keyI l x)) [] := by
  refine Con.of T_ok Try.func56 rfl (by kernel_rfl) (by kernel_rfl) (aw_of T_ok (by kernel_rfl) ?_)
  conv => whnf
  refine AW.loop (fun k : Nat => k ≤ l.length ∧ idxL (fun s : Saga => s.key == x) (l.drop k) k = keyI l x) (fun k => [(0, .lf (.pv (encSagas l))), (1, .lf (.fn 57 [[pS x]])), (7, Go.Rx.I l.length), (8, Go.Rx.I k)]) (fun _ => []) (fun k => l.length - k) [] ?_ ?_
  · exact ⟨0, ⟨Nat.zero_le _, rfl⟩, ⟨rfl, rfl, congrArg (fun n : Nat => Go.Rx.I (n : Int)) (List.length_map ..), rfl, trivial⟩, ⟨[], rfl⟩, rfl, rfl⟩
  · rintro k ⟨hk, hpre⟩
    refine aw_of T_ok (by kernel_rfl) ?_
    conv => whnf
    split <;> rename_i hlt <;> conv => whnf
    · have hkl : k < l.length := by simpa using hlt
      rw [idx_go hkl] at hpre
      refine ⟨by omega, (l[k]).enc, by simp [hkl], ?_⟩
      conv => whnf
      refine callS (keyed1_con l[k] x) rfl ?_
      conv => whnf
      split <;> rename_i he <;> conv => whnf
      · refine finI ⟨?_⟩
        rw [← hpre, if_pos (show (l[k].key == x) = true from he)]
      · refine ⟨k + 1, ⟨⟨by omega, ?_⟩, by omega⟩, ⟨rfl, rfl, rfl, congrArg Go.Rx.I (wrapI (by omega)), trivial⟩, ⟨[], rfl⟩, rfl, rfl⟩
        rw [← hpre, if_neg (by rw [show (l[k].key == x) = false from he]; decide)]
    · refine finI ⟨?_⟩
      have hkl : l.length ≤ k := by simpa using hlt
      rw [← hpre, idx_end hkl]
theorem keyed_con (l : List Saga) (x : ByteArray) (hl : l.length * 96 ≤ 140737488351232) : Con P 36 [.lf (.pv (encSagas l)), Sx x] (I (keyI l x)) [] := by
  refine Con.of T_ok Try.func36 rfl (by kernel_rfl) (by kernel_rfl) (aw_of T_ok (by kernel_rfl) ?_)
  conv => whnf
  refine callS (indexSg_con l x hl) rfl ?_
  conv => whnf
  exact finI ⟨rfl⟩
theorem of1_con (r : Rec) (h : r.Ok) : Con P 23 [encRec r] (Bl (!(recB r))) [] := by
  refine Con.of T_ok Try.func23 rfl (by kernel_rfl) (by kernel_rfl) (aw_of T_ok (by kernel_rfl) ?_)
  conv => whnf
  refine callS (recMay_con r h) rfl ?_
  conv => whnf
  exact finB ⟨rfl⟩
theorem indexRec_con (l : List Rec) (hl : l.length * 80 ≤ 140737488355328) (hr : ∀ r ∈ l, r.Ok) : Con P 44 [.lf (.pv (encRecs l)), .lf (.fn 23 [])] (I (idxL (fun r : Rec => !(recB r)) l 0)) [] := by
  refine Con.of T_ok Try.func44 rfl (by kernel_rfl) (by kernel_rfl) (aw_of T_ok (by kernel_rfl) ?_)
  conv => whnf
  refine AW.loop (fun k : Nat => k ≤ l.length ∧ idxL (fun r : Rec => !(recB r)) (l.drop k) k = idxL (fun r : Rec => !(recB r)) l 0) (fun k => [(0, .lf (.pv (encRecs l))), (1, .lf (.fn 23 [])), (7, Go.Rx.I l.length), (8, Go.Rx.I k)]) (fun _ => []) (fun k => l.length - k) [] ?_ ?_
  · exact ⟨0, ⟨Nat.zero_le _, rfl⟩, ⟨rfl, rfl, congrArg (fun n : Nat => Go.Rx.I (n : Int)) (List.length_map ..), rfl, trivial⟩, ⟨[], rfl⟩, rfl, rfl⟩
  · rintro k ⟨hk, hpre⟩
    refine aw_of T_ok (by kernel_rfl) ?_
    conv => whnf
    split <;> rename_i hlt <;> conv => whnf
    · have hkl : k < l.length := by simpa using hlt
      rw [idx_go hkl] at hpre
      refine ⟨by omega, (l[k]).enc, by simp [hkl], ?_⟩
      conv => whnf
      refine callS (of1_con l[k] (hr _ (List.getElem_mem hkl))) rfl ?_
      conv => whnf
      split <;> rename_i he <;> conv => whnf
      · refine finI ⟨?_⟩
        rw [← hpre, if_pos (show (!(recB l[k])) = true from he)]
      · refine ⟨k + 1, ⟨⟨by omega, ?_⟩, by omega⟩, ⟨rfl, rfl, rfl, congrArg Go.Rx.I (wrapI (by omega)), trivial⟩, ⟨[], rfl⟩, rfl, rfl⟩
        rw [← hpre, if_neg (by rw [show (!(recB l[k])) = false from he]; decide)]
    · refine finI ⟨?_⟩
      have hkl : l.length ≤ k := by simpa using hlt
      rw [← hpre, idx_end hkl]
theorem anyRec_con (l : List Rec) (hl : l.length * 80 ≤ 140737488355328) (hr : ∀ r ∈ l, r.Ok) : Con P 22 [.lf (.pv (encRecs l)), .lf (.fn 23 [])] (Bl (l.any fun r : Rec => !(recB r))) [] := by
  refine Con.of T_ok Try.func22 rfl (by kernel_rfl) (by kernel_rfl) (aw_of T_ok (by kernel_rfl) ?_)
  conv => whnf
  refine callS (indexRec_con l hl hr) rfl ?_
  conv => whnf
  exact finB ⟨idx_any l 0⟩
/-- Whether any has a key, and where, as the page tells it. -/
theorem find9_con (l : List Saga) (x : ByteArray) (hl : l.length * 96 ≤ 140737488351232) (hid : ∀ (i : Nat) (s : Saga), l[i]? = some s → s.id = i + 1) : Con P 30 [.lf (.pv (encSagas l)), Sx x] (I (keyI l x + 1)) [] := by
  refine Con.of T_ok Try.func30 rfl (by kernel_rfl) (by kernel_rfl) (aw_of T_ok (by kernel_rfl) ?_)
  conv => whnf
  refine AW.loop (fun k : Nat => k ≤ l.length ∧ idxL (fun s : Saga => s.key == x) (l.drop k) k = keyI l x) (fun k => [(0, .lf (.pv (encSagas l))), (1, Sx x), (5, Go.Rx.I k)]) (fun _ => []) (fun k => l.length - k) [] ?_ ?_
  · exact ⟨0, ⟨Nat.zero_le _, rfl⟩, ⟨rfl, rfl, rfl, trivial⟩, ⟨[], rfl⟩, rfl, rfl⟩
  · rintro k ⟨hk, hpre⟩
    refine aw_of T_ok (by kernel_rfl) ?_
    conv => whnf
    split <;> rename_i hlt <;> conv => whnf
    · have hkl : k < l.length := by simpa using hlt
      rw [idx_go hkl] at hpre
      refine ⟨by omega, (l[k]).enc, by simp [hkl], ?_⟩
      conv => whnf
      split <;> rename_i he <;> conv => whnf
      · refine ⟨by omega, (l[k]).enc, by simp [hkl], ?_⟩
        conv => whnf
        refine finI ⟨?_⟩
        rw [← hpre, if_pos (show (l[k].key == x) = true from he)]
        exact hid k l[k] (List.getElem?_eq_getElem hkl)
      · refine ⟨k + 1, ⟨⟨by omega, ?_⟩, by omega⟩, ⟨rfl, rfl, congrArg Go.Rx.I (wrapI (by omega)), trivial⟩, ⟨[], rfl⟩, rfl, rfl⟩
        rw [← hpre, if_neg (by rw [show (l[k].key == x) = false from he]; decide)]
    · refine finI ⟨?_⟩
      have hkl : l.length ≤ k := by simpa using hlt
      rw [← hpre, idx_end hkl]
      rfl
theorem long3_con : Con P 33 [Go.Rx.I 3] (numE (4, 0)) [] := by
  have hlong : Con P 55 [Go.Rx.I 3] (Go.Rx.I 4) [] := by
    refine Con.of T_ok Try.func55 rfl (by kernel_rfl) (by kernel_rfl) (aw_of T_ok (by kernel_rfl) ?_)
    conv => whnf
    refine AW.loop (fun k : Nat => k ≤ 2) (fun k => [(3, Go.Rx.I (2 ^ k : Nat)), (6, Go.Rx.I 2), (7, Go.Rx.I k)]) (fun _ => []) (fun k => 2 - k) [] ?_ ?_
    · exact ⟨0, by omega, ⟨rfl, rfl, rfl, trivial⟩, ⟨[], rfl⟩, rfl, rfl⟩
    · intro k hk
      have : k = 0 ∨ k = 1 ∨ k = 2 := by omega
      rcases this with rfl | rfl | rfl
      · refine aw_of T_ok (by kernel_rfl) ?_
        conv => whnf
        exact ⟨1, ⟨by omega, by omega⟩, ⟨rfl, rfl, rfl, trivial⟩, ⟨[], rfl⟩, rfl, rfl⟩
      · refine aw_of T_ok (by kernel_rfl) ?_
        conv => whnf
        exact ⟨2, ⟨by omega, by omega⟩, ⟨rfl, rfl, rfl, trivial⟩, ⟨[], rfl⟩, rfl, rfl⟩
      · refine aw_of T_ok (by kernel_rfl) ?_
        conv => whnf
        exact finI ⟨rfl⟩
  refine Con.of T_ok Try.func33 rfl (by kernel_rfl) (by kernel_rfl) (aw_of T_ok (by kernel_rfl) ?_)
  conv => whnf
  refine callS hlong rfl ?_
  conv => whnf
  exact finNE ⟨rfl⟩
end Go.Proofs.Yteimnlmianfldaa.Rx

/- One record behind sagas: the program's step, on a slice of the call's own. -/
set_option linter.unusedVariables false
set_option linter.unusedSimpArgs false
namespace Go.Rx
theorem begin_new {r : Rec} (h : recB r = true) (k : r.kind = 1) : beginS r = (newS r, 0) := by
  rw [beginS, if_neg (by rw [h, k]; decide)]; rfl
theorem key_neg {l : List Saga} {r : Rec} (h : ∀ s ∈ l, s.key ≠ r.key) : ¬ 0 ≤ keyI l r.key := by
  have : keyI l r.key < 0 := idx_neg.2 fun x hx => by simpa using h x hx
  omega
end Go.Rx
namespace Go.Proofs.Yteimnlmianfldaa.Rx
open Go.Rx Go.Proofs Go.Proofs.Yteimnlmianfldaa.RxH
abbrev sgB (l : List Saga) : Blk := .arr 54 9 (l.map Saga.enc)

set_option maxHeartbeats 1000000 in
theorem step_yes (l : List Saga) (r : Rec) (hl : Sgs l) (hr : recB r = true) (hok : r.Ok) (hg : goesB l r = true) :
    ConG P 25 [sgB l] [.lf (.own 0 l.length), encRec r] (.tup [.lf (.own 0 (stepL l r).length), .lf (.pv (pB true))]) [sgB (stepL l r)] := by
  have hm : (l.map Saga.enc).length = l.length := List.length_map ..
  have hlen := hl.len
  have hsm := sg_small hl
  have hid := rec_id hr
  refine ConG.of T_ok Try.func25 rfl (by kernel_rfl) (by kernel_rfl) (aw_of T_ok (by kernel_rfl) ?_)
  conv => whnf
  split <;> rename_i k1 <;> conv => whnf
  · have k : r.kind = 1 := by simpa using k1
    obtain ⟨h1, h2⟩ := goes_begin hg k
    refine ⟨hm, ?_⟩
    conv => whnf
    split <;> rename_i k2 <;> conv => whnf
    · exfalso
      have : (r.id != IntKind.i64.wrap ((l.length : Int) + 1)) = true := k2
      rw [wrapI (by omega), h1] at this
      simp at this
    refine ⟨hm, ?_⟩
    conv => whnf
    refine callS (keyed_con l r.key hsm) rfl ?_
    conv => whnf
    split <;> rename_i k3 <;> conv => whnf
    · exact absurd (of_decide_eq_true k3) (key_neg h2)
    have cb := beginTop_con r hok
    rw [begin_new hr k] at cb
    refine callU cb (fun _ => rfl) ?_
    conv => whnf
    refine ⟨rfl, _, .inl rfl, ?_⟩
    conv => whnf
    refine ⟨hm, by show (l.length + 1) * 96 ≤ _; omega, ?_⟩
    conv => whnf
    have es : stepL l r = l ++ [newS r] := by rw [stepL, if_pos k]
    rw [es]
    refine ⟨[], [0], [.lf (.own 0 (l.length + 1)), Bl true], [.lf (.own 0 (l.length + 1)), Bl true], rfl, ?_, rfl, wk_refl _, ?_⟩
    · show some [Blk.arr _ 9 (l.map Saga.enc ++ [_])] = some [Blk.arr _ 9 ((l ++ [newS r]).map Saga.enc)]
      rw [List.map_append]; rfl
    · rw [List.length_append]; rfl
  · have k : ¬ r.kind = 1 := by simpa using k1
    obtain ⟨s, h1, h2, h3, h4⟩ := goes_on hg k
    have hs := hl.sg _ _ h1
    have hsl := (List.getElem?_eq_some_iff.1 h1).1
    have w1 : IntKind.i64.wrap (r.id - 1) = r.id - 1 := wrapI (by omega)
    have hrow : (l.map Saga.enc)[(IntKind.i64.wrap (r.id - 1)).toNat]? = some s.enc := by rw [w1, List.getElem?_map, h1]; rfl
    refine AW.draw T_ok rfl (seqPl 0 16) (by kernel_rfl) (by kernel_rfl) ?_
    conv => whnf
    refine ⟨hm, ?_⟩
    conv => whnf
    split <;> rename_i k2 <;> conv => whnf
    · exact absurd (of_decide_eq_true k2) (by omega)
    have hix : 0 ≤ IntKind.i64.wrap (r.id - 1) ∧ IntKind.i64.wrap (r.id - 1) < (l.length : Int) := by rw [w1]; omega
    refine ⟨hm, hix.1, hix.2, ?_⟩
    conv => whnf
    refine ⟨rfl, hm, s.enc, hrow, ?_⟩
    conv => whnf
    refine callS (fitsTop_con s r) rfl ?_
    conv => whnf
    split <;> rename_i k3 <;> conv => whnf
    · exfalso
      rw [show (r.id == s.id && (s.status == 0 && fitsB s r)) = true by simp [h2, h3, h4]] at k3
      cases k3
    refine AW.draw T_ok rfl (seqPl 0 14) (by kernel_rfl) (by kernel_rfl) ?_
    conv => whnf
    refine ⟨hm, hix.1, hix.2, ?_⟩
    conv => whnf
    refine ⟨rfl, hm, s.enc, hrow, ?_⟩
    conv => whnf
    refine callU (next_con s r hs.ok.steps.len) (fun _ => rfl) ?_
    conv => whnf
    refine ⟨hm, hix.1, hix.2, ?_⟩
    conv => whnf
    refine ⟨rfl, hm, s.enc, hrow, ?_⟩
    conv => whnf
    refine ⟨by decide, ?_⟩
    conv => whnf
    have es : stepL l r = l.set (r.id - 1).toNat (nextS s r) := by rw [stepL, if_neg k, h1]
    rw [es]
    refine ⟨[], [0], [.lf (.own 0 l.length), Bl true], [.lf (.own 0 l.length), Bl true], rfl, ?_, rfl, wk_refl _, ?_⟩
    · show some [Blk.arr _ 9 ((l.map Saga.enc).set (IntKind.i64.wrap (r.id - 1)).toNat (nextS s r).enc)] = some [Blk.arr _ 9 ((l.set (r.id - 1).toNat (nextS s r)).map Saga.enc)]
      rw [w1, List.map_set]
    · rw [List.length_set]; rfl
theorem step_no (l : List Saga) (r : Rec) (hl : Sgs l) (hr : recB r = true) (hok : r.Ok) (hg : goesB l r = false) :
    ConG P 25 [sgB l] [.lf (.own 0 l.length), encRec r] (.tup [.lf (.pv (.sc (.slice none 0 0))), .lf (.pv (pB false))]) [sgB l] := by
  have hm : (l.map Saga.enc).length = l.length := List.length_map ..
  have hlen := hl.len
  have hsm := sg_small hl
  have hid := rec_id hr
  refine ConG.of T_ok Try.func25 rfl (by kernel_rfl) (by kernel_rfl) (aw_of T_ok (by kernel_rfl) ?_)
  conv => whnf
  split <;> rename_i k1 <;> conv => whnf
  · have k : r.kind = 1 := by simpa using k1
    rw [goesB, if_pos k] at hg
    refine ⟨hm, ?_⟩
    conv => whnf
    split <;> rename_i k2 <;> conv => whnf
    · exact ⟨[], [0], _, _, rfl, rfl, rfl, wk_refl _, rfl⟩
    have k2' : r.id = ((l.length + 1 : Nat) : Int) := by
      have : (r.id != IntKind.i64.wrap ((l.length : Int) + 1)) = false := k2
      rw [wrapI (by omega)] at this
      simpa using this
    refine ⟨hm, ?_⟩
    conv => whnf
    refine callS (keyed_con l r.key hsm) rfl ?_
    conv => whnf
    split <;> rename_i k3 <;> conv => whnf
    · exact ⟨[], [0], _, _, rfl, rfl, rfl, wk_refl _, rfl⟩
    exfalso
    have k3' : decide (0 ≤ keyI l r.key) = false := k3
    rw [k2', k3'] at hg
    simp at hg
  · have k : ¬ r.kind = 1 := by simpa using k1
    rw [goesB, if_neg k] at hg
    have w1 : IntKind.i64.wrap (r.id - 1) = r.id - 1 := wrapI (by omega)
    refine AW.draw T_ok rfl (seqPl 0 16) (by kernel_rfl) (by kernel_rfl) ?_
    conv => whnf
    refine ⟨hm, ?_⟩
    conv => whnf
    split <;> rename_i k2 <;> conv => whnf
    · exact ⟨[], [0], _, _, rfl, rfl, rfl, wk_refl _, rfl⟩
    have k2' : r.id ≤ l.length := by have := of_decide_eq_false k2; omega
    have hsl : (r.id - 1).toNat < l.length := by omega
    have h1 := List.getElem?_eq_getElem hsl
    generalize l[(r.id - 1).toNat] = s at h1
    rw [h1] at hg
    simp only at hg
    have hrow : (l.map Saga.enc)[(IntKind.i64.wrap (r.id - 1)).toNat]? = some s.enc := by rw [w1, List.getElem?_map, h1]; rfl
    have hix : 0 ≤ IntKind.i64.wrap (r.id - 1) ∧ IntKind.i64.wrap (r.id - 1) < (l.length : Int) := by rw [w1]; omega
    refine ⟨hm, hix.1, hix.2, ?_⟩
    conv => whnf
    refine ⟨rfl, hm, s.enc, hrow, ?_⟩
    conv => whnf
    have cf := fitsTop_con s r
    rw [hg] at cf
    refine callS cf rfl ?_
    conv => whnf
    exact ⟨[], [0], _, _, rfl, rfl, rfl, wk_refl _, rfl⟩
end Go.Proofs.Yteimnlmianfldaa.Rx

/- A call's own result, taken as rows that stay. -/
set_option linter.unusedVariables false
set_option linter.unusedSimpArgs false
namespace Go.Rx
open Go.RowKit
def ofTC : TC → AV
  | .lf l => .lf l
  | .agg l => .agg l
theorem ofTC_rep {G : Gh} {bk : List Blk} {w : World} : ∀ {ts : List TC} {us : List Value}, Fa (RepT G bk w) ts us → Fa (RepA G bk w) (ts.map ofTC) us
  | [], [], _ => trivial
  | t :: ts, u :: us, h => ⟨by cases t <;> exact h.1, ofTC_rep h.2⟩
  | [], _ :: _, h => h.elim
  | _ :: _, [], h => h.elim
theorem Con.stays {P : Program} {f : FuncId} {args : List AV} {ts : List TC} {r : AV} {nb : List Blk} (h : Con P f args (.tup ts) nb) (h2 : 2 ≤ ts.length)
    (hk : argsK nb (ts.map ofTC) fun _ ys => ∃ zs, Fa WkA ys zs ∧ pack zs = some r) : Con P f args r [] := by
  refine ⟨h.1, rfl, fun w S us hS hargs => (h.2.2 w S us hS hargs).mono fun e w' ⟨u, G', he, hr, hm⟩ => ?_⟩
  obtain ⟨vs, rfl, hvs⟩ := hr
  obtain ⟨G2, b2, ys, t2, m2, hys, zs, hwk, hpk⟩ := argsK_sound hm (ofTC_rep hvs) hk
  have hp := pack_rep (wks_rep hwk hys) hpk
  have hl : vs.toArray.size ≠ 1 := by have := hvs.length; simp; omega
  rw [dif_neg hl] at hp
  exact ⟨_, Gh.base G2.S, he, hp, fun b B hb => by simp at hb, fun b b' g hb => by simp at hb, fun g o b hs ha => absurd (alive_lt ha) (by simp), m2.slt, fun b g hb => by simp at hb, fun b g hb => by simp at hb, m2.s0, m2.snew, m2.os, m2.tape, m2.output, m2.size, m2.block, Nat.le_refl _, ⟨m2.t0.S, m2.t0.cell, Nat.le_refl _, fun b hb => absurd hb (Nat.not_lt_zero _), fun b sz rows h => (by unfold rowsOf at h; simp [Ctx.base] at h)⟩⟩
theorem Con.stay1 {P : Program} {f : FuncId} {args : List AV} {x r : AV} {nb : List Blk} (h : Con P f args x nb) (hx : ∀ ts, x ≠ .tup ts)
    (hk : argsK nb [x] fun _ ys => ∃ zs, Fa WkA ys zs ∧ pack zs = some r) : Con P f args r [] := by
  refine ⟨h.1, rfl, fun w S us hS hargs => (h.2.2 w S us hS hargs).mono fun e w' ⟨u, G', he, hr, hm⟩ => ?_⟩
  obtain ⟨G2, b2, ys, t2, m2, hys, zs, hwk, hpk⟩ := argsK_sound hm (xs := [x]) (vs := [u]) ⟨hr, trivial⟩ hk
  have hp := pack_rep (wks_rep hwk hys) hpk
  exact ⟨_, Gh.base G2.S, he, hp, fun b B hb => by simp at hb, fun b b' g hb => by simp at hb, fun g o b hs ha => absurd (alive_lt ha) (by simp), m2.slt, fun b g hb => by simp at hb, fun b g hb => by simp at hb, m2.s0, m2.snew, m2.os, m2.tape, m2.output, m2.size, m2.block, Nat.le_refl _, ⟨m2.t0.S, m2.t0.cell, Nat.le_refl _, fun b hb => absurd hb (Nat.not_lt_zero _), fun b sz rows h => (by unfold rowsOf at h; simp [Ctx.base] at h)⟩⟩
end Go.Rx

/- All sagas of records: the program's, and the page's. -/
set_option linter.unusedVariables false
set_option linter.unusedSimpArgs false
namespace Go.Rx
theorem any_all (l : List Rec) : (l.any fun r : Rec => !(recB r)) = !(l.all recB) := by
  induction l with
  | nil => rfl
  | cons r l ih => simp only [List.any_cons, List.all_cons, ih, Bool.not_and]
theorem fold_drop {l : List Rec} {k : Nat} (h : k < l.length) (x : List Saga) : foldL x (l.drop k) = if goesB x l[k] then foldL (stepL x l[k]) (l.drop (k + 1)) else none := by
  rw [List.drop_eq_getElem_cons h, foldL]
theorem fold_end {l : List Rec} {k : Nat} (h : l.length ≤ k) (x : List Saga) : foldL x (l.drop k) = some x := by
  rw [List.drop_of_length_le h, foldL]
end Go.Rx
namespace Go.Proofs.Yteimnlmianfldaa.Rx
open Go.Rx Go.Proofs Go.Proofs.Yteimnlmianfldaa.RxH

abbrev noSg (e : Int) : AV := .tup [.lf (.pv (.sc (.slice none 0 0))), .lf (.pv (pI e))]
set_option maxHeartbeats 1000000 in
theorem of_ok (l : List Rec) (x : List Saga) (hl : l.length * 80 ≤ 140737488355328) (hr : ∀ r ∈ l, r.Ok) (ha : l.all recB = true) (hx : foldL [] l = some x) :
    Con P 9 [.lf (.pv (encRecs l))] (.tup [.lf (.own 0 x.length), .lf (.pv (pI 0))]) [sgB x] := by
  have hm : (l.map Rec.enc).length = l.length := List.length_map ..
  refine ConG.con (ConG.of T_ok Try.func9 rfl (by kernel_rfl) (by kernel_rfl) (aw_of T_ok (by kernel_rfl) ?_)) rfl
  conv => whnf
  have cany := anyRec_con l hl hr
  rw [any_all, ha] at cany
  refine callS cany rfl ?_
  conv => whnf
  refine AW.loop (fun p : Nat × List Saga => p.1 ≤ l.length ∧ Sgs p.2 ∧ foldL p.2 (l.drop p.1) = some x) (fun p => [(4, .lf (.own 0 p.2.length)), (5, Bl true), (10, .lf (.pv (encRecs l))), (11, Go.Rx.I l.length), (12, Go.Rx.I p.1)]) (fun p => [sgB p.2]) (fun p => l.length - p.1) [.slot 4 54 9] ?_ ?_
  · exact ⟨rfl, (0, []), ⟨Nat.zero_le _, sgs_nil, hx⟩, ⟨rfl, rfl, rfl, congrArg (fun n : Nat => Go.Rx.I (n : Int)) hm, rfl, trivial⟩, ⟨[], rfl⟩, rfl, rfl⟩
  rintro ⟨k, y⟩ ⟨hk, hy, hf⟩
  simp only at hk hy hf
  refine aw_of T_ok (by kernel_rfl) ?_
  conv => whnf
  split <;> rename_i hlt <;> conv => whnf
  · have hkl : k < l.length := by simpa using hlt
    have hrow : (l.map Rec.enc)[k]? = some (l[k]).enc := by simp [hkl]
    rw [fold_drop hkl] at hf
    have hrm := List.all_eq_true.1 ha _ (List.getElem_mem hkl)
    have hrk := hr _ (List.getElem_mem hkl)
    generalize l[k] = r at hrow hf hrm hrk
    cases hg : goesB y r with
    | false => rw [hg] at hf; cases hf
    | true =>
    rw [hg, if_pos rfl] at hf
    refine ⟨by omega, r.enc, hrow, ?_⟩
    conv => whnf
    refine ⟨[0], _, _, _, _, _, nodupB_ok rfl, rfl, rfl, wk_refl _, step_yes y r hy hrm hrk hg, ?_⟩
    conv => whnf
    exact ⟨(k + 1, stepL y r), ⟨⟨hkl, sgs_step hy hrm hrk hg, hf⟩, by show _ - (k + 1) < _ - k; omega⟩, ⟨rfl, rfl, rfl, rfl, congrArg Go.Rx.I (wrapI (by omega)), trivial⟩, ⟨_, rfl⟩, rfl, rfl⟩
  · have hkl : l.length ≤ k := by simpa using hlt
    rw [fold_end hkl] at hf
    cases hf
    exact ⟨[], [0], _, _, rfl, rfl, rfl, wk_refl _, rfl⟩
theorem of_bad (l : List Rec) (hl : l.length * 80 ≤ 140737488355328) (hr : ∀ r ∈ l, r.Ok) (hx : l.all recB = false ∨ (l.all recB = true ∧ foldL [] l = none)) :
    Con P 9 [.lf (.pv (encRecs l))] (noSg (ofP l).2) [] := by
  have hm : (l.map Rec.enc).length = l.length := List.length_map ..
  obtain ⟨e, he⟩ : ∃ e, e = (ofP l).2 := ⟨_, rfl⟩
  rw [← he]
  refine Con.of T_ok Try.func9 rfl (by kernel_rfl) (by kernel_rfl) (aw_of T_ok (by kernel_rfl) ?_)
  conv => whnf
  have cany := anyRec_con l hl hr
  rw [any_all] at cany
  refine callS cany rfl ?_
  conv => whnf
  split <;> rename_i h1 <;> conv => whnf
  · have ha : l.all recB = false := by simpa using h1
    rw [ofP, if_neg (by rw [ha]; decide)] at he
    subst he
    exact finA ⟨rfl⟩
  have ha : l.all recB = true := by simpa using h1
  have hx2 : foldL [] l = none := by
    rcases hx with hx | hx
    · rw [ha] at hx; cases hx
    · exact hx.2
  rw [ofP, if_pos ha, hx2] at he
  subst he
  refine AW.loop (fun p : Nat × List Saga => p.1 ≤ l.length ∧ Sgs p.2 ∧ foldL p.2 (l.drop p.1) = none) (fun p => [(4, .lf (.own 0 p.2.length)), (5, Bl true), (10, .lf (.pv (encRecs l))), (11, Go.Rx.I l.length), (12, Go.Rx.I p.1)]) (fun p => [sgB p.2]) (fun p => l.length - p.1) [.slot 4 54 9] ?_ ?_
  · exact ⟨rfl, (0, []), ⟨Nat.zero_le _, sgs_nil, hx2⟩, ⟨rfl, rfl, rfl, congrArg (fun n : Nat => Go.Rx.I (n : Int)) hm, rfl, trivial⟩, ⟨[], rfl⟩, rfl, rfl⟩
  rintro ⟨k, y⟩ ⟨hk, hy, hf⟩
  simp only at hk hy hf
  refine aw_of T_ok (by kernel_rfl) ?_
  conv => whnf
  split <;> rename_i hlt <;> conv => whnf
  · have hkl : k < l.length := by simpa using hlt
    have hrow : (l.map Rec.enc)[k]? = some (l[k]).enc := by simp [hkl]
    rw [fold_drop hkl] at hf
    have hrm := List.all_eq_true.1 ha _ (List.getElem_mem hkl)
    have hrk := hr _ (List.getElem_mem hkl)
    generalize l[k] = r at hrow hf hrm hrk
    cases hg : goesB y r with
    | true =>
      rw [hg, if_pos rfl] at hf
      refine ⟨by omega, r.enc, hrow, ?_⟩
      conv => whnf
      refine ⟨[0], _, _, _, _, _, nodupB_ok rfl, rfl, rfl, wk_refl _, step_yes y r hy hrm hrk hg, ?_⟩
      conv => whnf
      exact ⟨(k + 1, stepL y r), ⟨⟨hkl, sgs_step hy hrm hrk hg, hf⟩, by show _ - (k + 1) < _ - k; omega⟩, ⟨rfl, rfl, rfl, rfl, congrArg Go.Rx.I (wrapI (by omega)), trivial⟩, ⟨_, rfl⟩, rfl, rfl⟩
    | false =>
      refine ⟨by omega, r.enc, hrow, ?_⟩
      conv => whnf
      refine ⟨[0], _, _, _, _, _, nodupB_ok rfl, rfl, rfl, wk_refl _, step_no y r hy hrm hrk hg, ?_⟩
      conv => whnf
      exact finA ⟨rfl⟩
  · have hkl : l.length ≤ k := by simpa using hlt
    rw [fold_end hkl] at hf
    cases hf
theorem of_con (l : List Rec) (hl : l.length * 80 ≤ 140737488355328) (hr : ∀ r ∈ l, r.Ok) : Con P 9 [.lf (.pv (encRecs l))] (sagasE (ofP l)) [] := by
  cases ha : l.all recB with
  | false =>
    have e : ofP l = ([], 1) := by rw [ofP, if_neg (by rw [ha]; decide)]
    have h := of_bad l hl hr (.inl ha)
    rw [e] at h ⊢
    exact Con.stays h (by decide) ⟨[.lf (.pv (encSagas [])), Go.Rx.I 1], ⟨.inr (.inl ⟨_, _, rfl, rfl, wkN 9⟩), .inl rfl, trivial⟩, rfl⟩
  | true =>
    cases hx : foldL [] l with
    | none =>
      have e : ofP l = ([], 10) := by rw [ofP, if_pos ha, hx]
      have h := of_bad l hl hr (.inr ⟨ha, hx⟩)
      rw [e] at h ⊢
      exact Con.stays h (by decide) ⟨[.lf (.pv (encSagas [])), Go.Rx.I 10], ⟨.inr (.inl ⟨_, _, rfl, rfl, wkN 9⟩), .inl rfl, trivial⟩, rfl⟩
    | some x =>
      have e : ofP l = (x, 0) := by rw [ofP, if_pos ha, hx]
      have h := of_ok l x hl hr ha hx
      rw [e]
      exact Con.stays h (Nat.le_refl 2) ⟨List.length_map .., [.lf (.pv (encSagas x)), Go.Rx.I 0], wk_refl _, rfl⟩
abbrev recV (r : Rec) : Blk := .var [.pv (pI r.kind), .pv (pI r.id), .pv (pI r.n), .pv (pS r.key), .pv (pS r.body), .pv (encSteps r.steps)]
abbrev sagasB (p : List Saga × Bool) : AV := .tup [.lf (.pv (encSagas p.1)), .lf (.pv (pB p.2))]
def foldP (l : List Rec) : List Saga × Bool := match foldL [] l with | some x => (x, true) | none => ([], false)
theorem finNS {p : List Saga × Bool} (h : p = ([], false)) : ∃ zs, Fa WkA [.lf (.pv (.sc (.slice none 0 0))), Bl false] zs ∧ pack zs = some (sagasB p) := by
  subst h
  exact ⟨[.lf (.pv (encSagas [])), Bl false], ⟨.inr (.inl ⟨_, _, rfl, rfl, wkN 9⟩), .inl rfl, trivial⟩, rfl⟩
set_option maxHeartbeats 1000000 in
theorem fold9_con (l : List Rec) (hl : l.length * 80 ≤ 140737488355328) (hr : ∀ r ∈ l, r.Ok) (ha : l.all recB = true) : Con P 11 [.lf (.pv (encRecs l))] (sagasB (foldP l)) [] := by
  have hm : (l.map Rec.enc).length = l.length := List.length_map ..
  obtain ⟨q, hq⟩ : ∃ q, q = foldP l := ⟨_, rfl⟩
  rw [← hq]
  refine Con.of T_ok Try.func11 rfl (by kernel_rfl) (by kernel_rfl) (aw_of T_ok (by kernel_rfl) ?_)
  conv => whnf
  refine AW.loop (fun p : Nat × List Saga => p.1 ≤ l.length ∧ Sgs p.2 ∧ foldL p.2 (l.drop p.1) = foldL [] l) (fun p => [(0, .lf (.pv (encRecs l))), (4, .lf (.own 0 p.2.length)), (5, Go.Rx.I p.1)]) (fun p => [sgB p.2]) (fun p => l.length - p.1) [.slot 4 54 9] ?_ ?_
  · exact ⟨rfl, (0, []), ⟨Nat.zero_le _, sgs_nil, rfl⟩, ⟨rfl, rfl, rfl, trivial⟩, ⟨[], rfl⟩, rfl, rfl⟩
  rintro ⟨k, y⟩ ⟨hk, hy, hf⟩
  simp only at hk hy hf
  have hylen := hy.len
  have hym : (y.map Saga.enc).length = y.length := List.length_map ..
  have hysm := sg_small hy
  have hid : ∀ (i : Nat) (s : Saga), y[i]? = some s → s.id = i + 1 := fun i s h => (hy.sg i s h).id
  refine aw_ofC T_ok 2012 (by kernel_rfl) ?_
  conv => whnf
  split <;> rename_i hlt <;> conv => whnf
  · have hkl : k < l.length := by simpa using hlt
    have hrow : (l.map Rec.enc)[k]? = some (l[k]).enc := by simp [hkl]
    rw [fold_drop hkl] at hf
    have hrm := List.all_eq_true.1 ha _ (List.getElem_mem hkl)
    have hrk := hr _ (List.getElem_mem hkl)
    generalize l[k] = r at hrow hf hrm hrk
    have hrid := rec_id hrm
    refine ⟨by omega, r.enc, hrow, ?_⟩
    conv => whnf
    split <;> rename_i k1 <;> conv => whnf
    · have kk : r.kind = 1 := by simpa using k1
      refine ⟨hym, ?_⟩
      conv => whnf
      split <;> rename_i k2 <;> conv => whnf
      · have hg : goesB y r = false := by
          have h2 : (r.id != IntKind.i64.wrap ((y.length : Int) + 1)) = true := k2
          rw [wrapI (by omega)] at h2
          rw [goesB, if_pos kk, Bool.and_eq_false_iff]
          left
          simpa using h2
        rw [hg, if_neg (by decide)] at hf
        exact finNS (by rw [hq, foldP, ← hf])
      refine ⟨hym, ?_⟩
      conv => whnf
      refine callS (find9_con y r.key hysm hid) rfl ?_
      conv => whnf
      have h2 : r.id = ((y.length + 1 : Nat) : Int) := by
        have h2 : (r.id != IntKind.i64.wrap ((y.length : Int) + 1)) = false := k2
        rw [wrapI (by omega)] at h2
        simpa using h2
      split <;> rename_i k3 <;> conv => whnf
      · have hg : goesB y r = false := by
          have h3 : keyI y r.key + 1 > 0 := of_decide_eq_true k3
          rw [goesB, if_pos kk, Bool.and_eq_false_iff]
          right
          simp; omega
        rw [hg, if_neg (by decide)] at hf
        exact finNS (by rw [hq, foldP, ← hf])
      have hg : goesB y r = true := by
        have h3 : ¬ keyI y r.key + 1 > 0 := of_decide_eq_false k3
        rw [goesB, if_pos kk, h2]
        simp; omega
      rw [hg, if_pos rfl] at hf
      refine callU (begin9_con r hrk.steps.len) (fun _ => rfl) ?_
      conv => whnf
      refine ⟨rfl, _, .inl rfl, ?_⟩
      conv => whnf
      refine ⟨hym, by show (y.length + 1) * 96 ≤ _; omega, ?_⟩
      conv => whnf
      have es : stepL y r = y ++ [newS r] := by rw [stepL, if_pos kk]
      have hn := sgs_step hy hrm hrk hg
      rw [es] at hn hf
      refine ⟨(k + 1, y ++ [newS r]), ⟨⟨hkl, hn, hf⟩, by show _ - (k + 1) < _ - k; omega⟩, ⟨rfl, by show AV.lf (.own 0 (y.length + 1)) = _; simp, congrArg Go.Rx.I (wrapI (by omega)), trivial⟩, ⟨[?r1, ?r4], ?e1⟩, rfl, rfl⟩
      case e1 => show _ = [Blk.arr _ _ ((y ++ [newS r]).map Saga.enc)] ++ [_, _]; rw [List.map_append]; rfl
    · have kk : ¬ r.kind = 1 := by simpa using k1
      have w1 : IntKind.i64.wrap (r.id - 1) = r.id - 1 := wrapI (by omega)
      refine ⟨hym, ?_⟩
      conv => whnf
      split <;> rename_i k2 <;> conv => whnf
      · have hg : goesB y r = false := by
          have h2 : r.id > (y.length : Int) := of_decide_eq_true k2
          rw [goesB, if_neg kk, List.getElem?_eq_none (by omega)]
        rw [hg, if_neg (by decide)] at hf
        exact finNS (by rw [hq, foldP, ← hf])
      have h2 : r.id ≤ (y.length : Int) := by have : ¬ (r.id > (y.length : Int)) := of_decide_eq_false k2; omega
      have hsl : (r.id - 1).toNat < y.length := by omega
      have h1 := List.getElem?_eq_getElem hsl
      generalize y[(r.id - 1).toNat] = s at h1
      have hs := hy.sg _ _ h1
      have hrow2 : (y.map Saga.enc)[(IntKind.i64.wrap (r.id - 1)).toNat]? = some s.enc := by rw [w1, List.getElem?_map, h1]; rfl
      have hix : 0 ≤ IntKind.i64.wrap (r.id - 1) ∧ IntKind.i64.wrap (r.id - 1) < (y.length : Int) := by rw [w1]; omega
      have ca := apply9_con s r hs.ok hrk hs.may hrm
      have hwent : (applyS s r).2 = 0 → goesB y r = true ∧ (applyS s r).1 = nextS s r := fun e => by
        obtain ⟨_, a2, a3, a4, a5⟩ := apply_went hs.may e
        refine ⟨?_, a5⟩
        rw [goesB, if_neg kk, h1]
        simp [a2, a3, a4]
      have hstay : (applyS s r).2 ≠ 0 → goesB y r = false := fun e => by
        rw [Bool.eq_false_iff]
        intro hg
        obtain ⟨s', b1, b2, b3, b4⟩ := goes_on hg kk
        rw [h1] at b1
        cases b1
        exact e (apply_goes hs.may hrm b2 b3 b4)
      generalize applyS s r = p at ca hwent hstay
      obtain ⟨z, e⟩ := p
      simp only at hwent hstay
      refine AW.cut (fun _ : Unit => True) (fun _ => [(0, .lf (.pv (encRecs l))), (4, .lf (.own 0 y.length)), (5, Go.Rx.I k), (6, .lf (.ptr 1 0)), (7, .lf (.ptr 2 0)), (8, Go.Rx.I e)]) (fun _ => [sgB y, recV r, sagaV z]) [] ?_ ?_
      · refine AW.draw T_ok rfl (.one 0 (.one 1 (.one 2 (.one 3 (.one 4 (.one 5 (.one 6 (.two 7 (listPl [8, 9, 10, 11, 12, 13]) 11 (listPl [7, 8, 9, 10, 12, 13]))))))))) (by kernel_rfl) (by kernel_rfl) ?_
        conv => whnf
        refine ⟨hym, hix.1, hix.2, ?_⟩
        conv => whnf
        refine ⟨rfl, hym, s.enc, hrow2, ?_⟩
        conv => whnf
        refine ⟨?_, ?_⟩ <;> conv => whnf
        · refine callU ca (fun _ => rfl) ?_
          conv => whnf
          exact ⟨(), trivial, ⟨rfl, rfl, rfl, rfl, rfl, rfl, trivial⟩, ⟨[], rfl⟩, rfl, rfl⟩
        · refine callU ca (fun _ => rfl) ?_
          conv => whnf
          exact ⟨(), trivial, ⟨rfl, rfl, rfl, rfl, rfl, rfl, trivial⟩, ⟨[], rfl⟩, rfl, rfl⟩
      rintro _ _
      refine aw_of T_ok (by kernel_rfl) ?_
      conv => whnf
      split <;> rename_i k3 <;> conv => whnf
      · have hne : e ≠ 0 := by simpa using k3
        rw [hstay hne, if_neg (by decide)] at hf
        exact finNS (by rw [hq, foldP, ← hf])
      have he : e = 0 := by simpa using k3
      obtain ⟨hg, hz⟩ := hwent he
      subst hz
      rw [hg, if_pos rfl] at hf
      refine ⟨hym, hix.1, hix.2, ?_⟩
      conv => whnf
      refine ⟨rfl, hym, s.enc, hrow2, ?_⟩
      conv => whnf
      refine ⟨by decide, ?_⟩
      conv => whnf
      have es : stepL y r = y.set (r.id - 1).toNat (nextS s r) := by rw [stepL, if_neg kk, h1]
      have hn := sgs_step hy hrm hrk hg
      rw [es] at hn hf
      refine ⟨(k + 1, y.set (r.id - 1).toNat (nextS s r)), ⟨⟨hkl, hn, hf⟩, by show _ - (k + 1) < _ - k; omega⟩, ⟨rfl, by show AV.lf (.own 0 y.length) = _; rw [List.length_set], congrArg Go.Rx.I (wrapI (by omega)), trivial⟩, ⟨[?r2, ?r3], ?e2⟩, rfl, rfl⟩
      case e2 =>
        show [Blk.arr _ _ ((y.map Saga.enc).set (IntKind.i64.wrap (r.id - 1)).toNat (nextS s r).enc), _, _] = [Blk.arr _ _ ((y.set (r.id - 1).toNat (nextS s r)).map Saga.enc)] ++ [_, _]
        rw [w1, List.map_set]; rfl
  · have hkl : l.length ≤ k := by simpa using hlt
    rw [fold_end hkl] at hf
    refine ⟨hym, ?_⟩
    rw [hq, foldP, ← hf]
    exact ⟨[.lf (.pv (encSagas y)), Bl true], wk_refl _, rfl⟩
end Go.Proofs.Yteimnlmianfldaa.Rx

/- May sagas be together? How much a script of records is; what the laws share. -/
set_option linter.unusedVariables false
set_option linter.unusedSimpArgs false
namespace Go.Rx
def togAt (l : List Saga) (i : Nat) : Bool := match l[i]? with | some s => sagaB s && (s.id == ((i + 1 : Nat) : Int) && !(decide (0 ≤ keyI (l.take i) s.key))) | none => true
def togA (l : List Saga) : Bool := (List.range l.length).all (togAt l)
def togB (l : List Saga) : Bool := togA l && decide (l.length ≤ 20)
theorem togAt_eq {l : List Saga} {i : Nat} (h : i < l.length) : togAt l i = (sagaB l[i] && (l[i].id == ((i + 1 : Nat) : Int) && !(decide (0 ≤ keyI (l.take i) l[i].key)))) := by
  unfold togAt; rw [List.getElem?_eq_getElem h]
theorem tog_yes {l : List Saga} (h : ∀ j, j < l.length → togAt l j = true) : togA l = true := by
  rw [togA, List.all_eq_true]
  intro j hj
  exact h j (List.mem_range.1 hj)
theorem tog_no {l : List Saga} {k : Nat} (hk : k < l.length) (h : togAt l k = false) : togA l = false := by
  rw [togA, List.all_eq_false]
  exact ⟨k, List.mem_range.2 hk, by rw [h]; decide⟩
theorem tog_sgs {l : List Saga} (h : Sgs l) : togB l = true := by
  rw [togB, decide_eq_true h.len, Bool.and_true]
  refine tog_yes fun j hj => ?_
  have hs := h.sg j l[j] (List.getElem?_eq_getElem hj)
  rw [togAt_eq hj, hs.may, Bool.true_and, Bool.and_eq_true]
  refine ⟨by rw [hs.id]; simp, ?_⟩
  have : keyI (l.take j) l[j].key < 0 := idx_neg.2 fun x hx => by
    obtain ⟨i, hi, rfl⟩ := List.mem_iff_getElem.1 hx
    have hi' : i < j := by rw [List.length_take] at hi; omega
    have := hs.key i l[i] hi' (List.getElem?_eq_getElem (by omega))
    simpa using this
  simp; omega
theorem sgs_tog {l : List Saga} (hok : ∀ s ∈ l, s.Ok) (h : togB l = true) : Sgs l := by
  rw [togB, Bool.and_eq_true] at h
  have hat : ∀ (i : Nat) (s : Saga), l[i]? = some s → sagaB s = true ∧ s.id = ((i + 1 : Nat) : Int) ∧ keyI (l.take i) s.key < 0 := fun i s hs => by
    have hi := (List.getElem?_eq_some_iff.1 hs).1
    have h1 := List.all_eq_true.1 h.1 i (List.mem_range.2 hi)
    unfold togAt at h1
    rw [hs] at h1
    simp only [Bool.and_eq_true, Bool.not_eq_true', decide_eq_false_iff_not, beq_iff_eq] at h1
    exact ⟨h1.1, h1.2.1, by omega⟩
  refine ⟨of_decide_eq_true h.2, fun i s hs => ?_⟩
  obtain ⟨h1, h2, h3⟩ := hat i s hs
  refine ⟨hok s (List.mem_of_getElem? hs), h1, by rw [h2]; rfl, fun j x hj hx => ?_⟩
  have := idx_neg.1 h3 x (List.mem_of_getElem? (by rw [List.getElem?_take_of_lt hj]; exact hx))
  simpa using this
def capOut : List (List Rec) → Int → Int
  | [], n => n
  | l :: L, n => if n < 1048576 then capOut L (capSum (l.map recW) (IntKind.i64.wrap (n + l.length))) else n
theorem capOut_go {L : List (List Rec)} {k : Nat} {n : Int} (h : k < L.length) (hn : n < 1048576) : capOut (L.drop k) n = capOut (L.drop (k + 1)) (capSum (L[k].map recW) (IntKind.i64.wrap (n + L[k].length))) := by
  rw [List.drop_eq_getElem_cons h, capOut, if_pos hn]
theorem capOut_stop {L : List (List Rec)} {n : Int} (h : ¬ n < 1048576) : capOut L n = n := by
  cases L with
  | nil => rfl
  | cons l L => rw [capOut, if_neg h]
structure RowsOk (L : List (List Rec)) : Prop where
  len : L.length * 24 ≤ 140737488351232
  row : ∀ l ∈ L, l.length * 80 ≤ 140737488351232 ∧ ∀ r ∈ l, r.Ok
end Go.Rx
namespace Go.Proofs.Yteimnlmianfldaa.Rx
open Go.Rx Go.Proofs Go.Proofs.Yteimnlmianfldaa.RxH

abbrev encRows (L : List (List Rec)) : PV := .sl 1 (L.map fun l => [encRecs l])
abbrev encAsk15 (R : List Rec) (S : List ByteArray) (N : List Int) (G : List Saga) (L : List (List Rec)) : AV := .agg [.pv (encRecs R), .pv (encStrs S), .pv (encInts N), .pv (encSagas G), .pv (encRows L)]
abbrev ask15V (R : List Rec) (S : List ByteArray) (N : List Int) (G : List Saga) (L : List (List Rec)) : Blk := .var [.pv (encRecs R), .pv (encStrs S), .pv (encInts N), .pv (encSagas G), .pv (encRows L)]
theorem replayMay_con (l : List Saga) (hl : l.length * 96 ≤ 140737488351232) (hs : ∀ s ∈ l, s.Ok) : Con P 35 [.lf (.pv (encSagas l))] (Bl (togB l)) [] := by
  have hm : (l.map Saga.enc).length = l.length := List.length_map ..
  refine Con.of T_ok Try.func35 rfl (by kernel_rfl) (by kernel_rfl) (aw_of T_ok (by kernel_rfl) ?_)
  conv => whnf
  refine AW.loop (fun k : Nat => k ≤ l.length ∧ ∀ j, j < k → togAt l j = true) (fun k => [(0, .lf (.pv (encSagas l))), (5, .lf (.pv (encSagas l))), (6, Go.Rx.I l.length), (7, Go.Rx.I k)]) (fun _ => []) (fun k => l.length - k) [] ?_ ?_
  · exact ⟨0, ⟨Nat.zero_le _, fun j hj => absurd hj (Nat.not_lt_zero _)⟩, ⟨rfl, rfl, congrArg (fun n : Nat => Go.Rx.I (n : Int)) hm, rfl, trivial⟩, ⟨[], rfl⟩, rfl, rfl⟩
  rintro k ⟨hk, hpre⟩
  refine aw_of T_ok (by kernel_rfl) ?_
  conv => whnf
  split <;> rename_i hlt <;> conv => whnf
  · have hkl : k < l.length := by simpa using hlt
    have hrow : (l.map Saga.enc)[k]? = some (l[k]).enc := by simp [hkl]
    have hat := togAt_eq hkl
    have hsk := hs _ (List.getElem_mem hkl)
    generalize l[k] = s at hrow hat hsk
    have no : togAt l k = false → false = togB l := fun h => by rw [togB, tog_no hkl h]; rfl
    refine ⟨by omega, s.enc, hrow, ?_⟩
    conv => whnf
    refine AW.draw T_ok rfl (listPl [0, 1, 2, 3, 4, 5, 6, 7, 8, 9, 10, 11, 12, 14, 15, 13, 16, 17, 18]) (by kernel_rfl) (by kernel_rfl) ?_
    conv => whnf
    refine callS (sagaMay_con s hsk) rfl ?_
    conv => whnf
    split <;> rename_i h1 <;> conv => whnf
    · exact finB ⟨no (by rw [hat, show sagaB s = false by simpa using h1]; rfl)⟩
    have w1 : IntKind.i64.wrap ((k : Int) + 1) = ((k + 1 : Nat) : Int) := wrapI (by omega)
    split <;> rename_i h2 <;> conv => whnf
    · refine finB ⟨no ?_⟩
      have h2' : (s.id != IntKind.i64.wrap ((k : Int) + 1)) = true := h2
      rw [w1] at h2'
      rw [hat, show (s.id == ((k + 1 : Nat) : Int)) = false by simpa using h2']
      simp
    have h2' : (s.id == ((k + 1 : Nat) : Int)) = true := by
      have h2' : (s.id != IntKind.i64.wrap ((k : Int) + 1)) = false := h2
      rw [w1] at h2'
      simpa using h2'
    refine ⟨by decide, by omega, by rw [hm]; omega, ?_⟩
    conv => whnf
    have ck := keyed_con (l.take k) s.key (by rw [List.length_take]; omega)
    rw [show encSagas (l.take k) = .sl 9 ((l.map Saga.enc).take k) by rw [encSagas, List.map_take]] at ck
    refine callS ck rfl ?_
    conv => whnf
    split <;> rename_i h3 <;> conv => whnf
    · refine finB ⟨no ?_⟩
      rw [hat, show decide (0 ≤ keyI (l.take k) s.key) = true from h3]
      simp
    refine ⟨k + 1, ⟨⟨by omega, fun j hj => ?_⟩, by omega⟩, ⟨rfl, rfl, rfl, congrArg Go.Rx.I w1, trivial⟩, ⟨_, rfl⟩, rfl, rfl⟩
    rcases Nat.lt_or_ge j k with hjk | hjk
    · exact hpre j hjk
    · obtain rfl : j = k := by omega
      rw [hat, show sagaB s = true by simpa using h1, h2', show decide (0 ≤ keyI (l.take j) s.key) = false from h3]
      rfl
  · have hkl : k = l.length := by have : ¬ ((k : Int) < (l.length : Int)) := by simpa using hlt
                                  omega
    refine finB ⟨?_⟩
    rw [togB, tog_yes (fun j hj => hpre j (by omega)), Bool.true_and, hm]
    simp
    omega
theorem replayCheck_con (l : List Saga) (hl : l.length * 96 ≤ 140737488351232) (hs : ∀ s ∈ l, s.Ok) : Con P 16 [.lf (.pv (encSagas l))] (Go.Rx.I (if togB l then 0 else 1)) [] := by
  refine Con.of T_ok Try.func16 rfl (by kernel_rfl) (by kernel_rfl) (aw_of T_ok (by kernel_rfl) ?_)
  conv => whnf
  refine callS (replayMay_con l hl hs) rfl ?_
  conv => whnf
  split <;> rename_i h <;> conv => whnf
  · refine finI ⟨?_⟩; rw [show togB l = false by simpa using h]; rfl
  · refine finI ⟨?_⟩; rw [show togB l = true by simpa using h]; rfl
def findP (l : List Saga) (k : ByteArray) : Int × Int := if togB l then (if keyI l k < 0 then (0, 3) else (keyI l k + 1, 0)) else (0, 1)
theorem idx_lt {α : Type} {p : α → Bool} : ∀ (l : List α) (k : Nat), idxL p l k < k + l.length
  | [], k => by rw [idxL]; simp; omega
  | a :: l, k => by
    rw [idxL]
    split
    · simp; omega
    · have := idx_lt (p := p) l (k + 1)
      simp at this ⊢; omega
theorem replayFind_con (l : List Saga) (x : ByteArray) (hl : l.length * 96 ≤ 140737488351232) (hs : ∀ s ∈ l, s.Ok) : Con P 17 [.lf (.pv (encSagas l)), Sx x] (numE (findP l x)) [] := by
  obtain ⟨q, hq⟩ : ∃ q, q = findP l x := ⟨_, rfl⟩
  rw [← hq]
  refine Con.of T_ok Try.func17 rfl (by kernel_rfl) (by kernel_rfl) (aw_of T_ok (by kernel_rfl) ?_)
  conv => whnf
  refine callS (replayMay_con l hl hs) rfl ?_
  conv => whnf
  split <;> rename_i h <;> conv => whnf
  · exact finNE ⟨by rw [hq, findP, if_neg (by rw [show togB l = false by simpa using h]; decide)]⟩
  have ht : togB l = true := by simpa using h
  rw [findP, if_pos ht] at hq
  refine callS (keyed_con l x hl) rfl ?_
  conv => whnf
  split <;> rename_i h2 <;> conv => whnf
  · exact finNE ⟨by rw [hq, if_pos (of_decide_eq_true h2)]⟩
  have h2' : ¬ keyI l x < 0 := of_decide_eq_false h2
  have hlt : keyI l x < l.length := by have := idx_lt (p := fun s : Saga => s.key == x) l 0; rw [keyI]; omega
  obtain ⟨n, hn⟩ : ∃ n : Nat, keyI l x = n := ⟨(keyI l x).toNat, by omega⟩
  have hnl : n < l.length := by omega
  have hsg := sgs_tog hs ht
  have hid := (hsg.sg n l[n] (List.getElem?_eq_getElem hnl)).id
  have hrow : (l.map Saga.enc)[(keyI l x).toNat]? = some (l[n]).enc := by rw [hn]; simp [hnl]
  rw [if_neg h2'] at hq
  refine ⟨by omega, (l[n]).enc, hrow, ?_⟩
  conv => whnf
  exact finNE ⟨by rw [hq, hid, hn]⟩
theorem wakes15_con : Con P 14 [] (Bl true) [] := by
  refine Con.of T_ok Try.func14 rfl (by kernel_rfl) (by kernel_rfl) (aw_of T_ok (by kernel_rfl) ?_)
  conv => whnf
  have co := of_con [] (by decide) (by simp)
  refine callP co ⟨.inr (.inl ⟨_, _, rfl, rfl, wkN 6⟩), trivial⟩ (fun _ => rfl) ?_
  conv => whnf
  refine callU long3_con (fun _ => rfl) ?_
  conv => whnf
  refine callS (num_con 0 (by decide)) rfl ?_
  conv => whnf
  refine callS (num_con 0 (by decide)) rfl ?_
  conv => whnf
  exact finB ⟨rfl⟩
theorem heavy15_con (R : List Rec) (S : List ByteArray) (N : List Int) (G : List Saga) (L : List (List Rec)) (h : AskOk R S N G) (hL : RowsOk L) : ∃ b, Con P 7 [encAsk15 R S N G L] (Bl b) [] := by
  obtain ⟨b2, hb2⟩ := heavy14_con R S N G h
  have hlen := hL.len
  have hm : (L.map fun l => [encRecs l]).length = L.length := List.length_map ..
  obtain ⟨V, hV⟩ : ∃ V, V = capOut L L.length := ⟨_, rfl⟩
  refine ⟨decide (900 < V) || b2, Con.of T_ok Try.func7 rfl (by kernel_rfl) (by kernel_rfl) (aw_of T_ok (by kernel_rfl) ?_)⟩
  conv => whnf
  refine AW.loop (fun p : Nat × Int => p.1 ≤ L.length ∧ capOut (L.drop p.1) p.2 = V) (fun p => [(1, .lf (.ptr 0 0)), (3, Go.Rx.I p.2), (4, Go.Rx.I p.1)]) (fun _ => [ask15V R S N G L]) (fun p => L.length - p.1) [] ?_ ?_
  · exact ⟨(0, L.length), ⟨Nat.zero_le _, hV.symm⟩, ⟨rfl, congrArg (fun n : Nat => Go.Rx.I (n : Int)) hm, rfl, trivial⟩, ⟨[], rfl⟩, rfl, rfl⟩
  rintro ⟨k, n⟩ ⟨hk, hsum⟩
  simp only at hk hsum
  have stop : n = V → ∀ (Q : Prop), (decide (900 < n) = true → (∃ zs, Fa WkA [Bl true] zs ∧ pack zs = some (Bl (decide (900 < V) || b2)))) ∧ (decide (900 < n) = false → (∃ zs, Fa WkA [Bl b2] zs ∧ pack zs = some (Bl (decide (900 < V) || b2)))) := fun e Q => by
    subst e
    exact ⟨fun h => finB ⟨by rw [h]; rfl⟩, fun h => finB ⟨by rw [h]; rfl⟩⟩
  refine aw_of T_ok (by kernel_rfl) ?_
  conv => whnf
  split <;> rename_i hlt <;> conv => whnf
  rotate_left
  · have hkl : L.length ≤ k := by have : ¬ ((k : Int) < (L.length : Int)) := by simpa using hlt
                                  omega
    rw [List.drop_of_length_le hkl, capOut] at hsum
    split <;> rename_i h9 <;> conv => whnf
    · exact (stop hsum True).1 h9
    · refine callS hb2 rfl ?_
      conv => whnf
      exact (stop hsum True).2 h9
  have hkl : k < L.length := by simpa using hlt
  split <;> rename_i hn <;> conv => whnf
  rotate_left
  · rw [capOut_stop (of_decide_eq_false hn)] at hsum
    split <;> rename_i h9 <;> conv => whnf
    · exact (stop hsum True).1 h9
    · refine callS hb2 rfl ?_
      conv => whnf
      exact (stop hsum True).2 h9
  rw [capOut_go hkl (of_decide_eq_true hn)] at hsum
  have hrow : (L.map fun l => [encRecs l])[k]? = some [encRecs L[k]] := by simp [hkl]
  have hrk := hL.row _ (List.getElem_mem hkl)
  generalize L[k] = l at hsum hrow hrk
  have hlm : (l.map Rec.enc).length = l.length := List.length_map ..
  refine ⟨by omega, _, hrow, ?_⟩
  conv => whnf
  obtain ⟨n0, hn0⟩ : ∃ n0 : Int, n0 = IntKind.i64.wrap (n + ((l.map Rec.enc).length : Nat)) := ⟨_, rfl⟩
  obtain ⟨V1, hV1⟩ : ∃ V1 : Int, V1 = capSum (l.map recW) n0 := ⟨_, rfl⟩
  rw [show IntKind.i64.wrap (n + (l.length : Int)) = n0 by rw [hn0, hlm], ← hV1] at hsum
  refine AW.loop (fun p : Nat × Int => p.1 ≤ l.length ∧ capSum ((l.map recW).drop p.1) p.2 = V1) (fun p => [(1, .lf (.ptr 0 0)), (3, Go.Rx.I p.2), (4, Go.Rx.I k), (5, Go.Rx.I p.1)]) (fun _ => [ask15V R S N G L]) (fun p => l.length - p.1) [] ?_ ?_
  · exact ⟨(0, n0), ⟨Nat.zero_le _, hV1.symm⟩, ⟨rfl, congrArg Go.Rx.I hn0.symm, rfl, rfl, trivial⟩, ⟨[], rfl⟩, rfl, rfl⟩
  rintro ⟨j, m⟩ ⟨hj, hs1⟩
  simp only at hj hs1
  refine aw_of T_ok (by kernel_rfl) ?_
  conv => whnf
  refine ⟨by omega, _, hrow, ?_⟩
  conv => whnf
  split <;> rename_i hjl <;> conv => whnf
  rotate_left
  · have hj2 : l.length ≤ j := by have : ¬ ((j : Int) < (l.length : Int)) := by simpa using hjl
                                  omega
    rw [List.drop_of_length_le (by simpa using hj2), capSum] at hs1
    refine ⟨(k + 1, m), ⟨⟨hkl, by rw [hs1]; exact hsum⟩, by show _ - (k + 1) < _ - k; omega⟩, ⟨rfl, rfl, congrArg Go.Rx.I (wrapI (by omega)), trivial⟩, ⟨_, rfl⟩, rfl, rfl⟩
  have hj2 : j < l.length := by simpa using hjl
  split <;> rename_i hm2 <;> conv => whnf
  rotate_left
  · rw [capSum_stop (of_decide_eq_false hm2)] at hs1
    refine ⟨(k + 1, m), ⟨⟨hkl, by rw [hs1]; exact hsum⟩, by show _ - (k + 1) < _ - k; omega⟩, ⟨rfl, rfl, congrArg Go.Rx.I (wrapI (by omega)), trivial⟩, ⟨_, rfl⟩, rfl, rfl⟩
  have h3 := capSum_go (l := l.map recW) (k := j) (by simpa using hj2) (of_decide_eq_true hm2)
  rw [List.getElem_map] at h3
  rw [h3] at hs1
  have hrow2 : (l.map Rec.enc)[j]? = some (l[j]).enc := by simp [hj2]
  have hrj := hrk.2 _ (List.getElem_mem hj2)
  generalize l[j] = r at hs1 hrow2 hrj
  refine ⟨by omega, _, hrow, ?_⟩
  conv => whnf
  refine ⟨by omega, r.enc, hrow2, ?_⟩
  conv => whnf
  refine callS (recW_con r hrj) rfl ?_
  conv => whnf
  exact ⟨(j + 1, IntKind.i64.wrap (m + recW r)), ⟨⟨hj2, hs1⟩, by show _ - (j + 1) < _ - j; omega⟩, ⟨rfl, rfl, rfl, congrArg Go.Rx.I (wrapI (by omega)), trivial⟩, ⟨_, rfl⟩, rfl, rfl⟩
end Go.Proofs.Yteimnlmianfldaa.Rx

/- The arguments of the replay's laws, opened. -/
namespace Go.Proofs.Yteimnlmianfldaa.Rx
open Go.Rx Go.Rx.Lift Go.Proofs

theorem opRecs : Opens P 22 (fun l : List Rec => [encRecs l]) (fun l => l.length * 80 ≤ 140737488351232 ∧ ∀ r ∈ l, r.Ok) :=
  opens_slice (sz := 6) (B := 80) Try.underlying22 (by kernel_rfl) (by decide) (by kernel_rfl) opRec
theorem opRows : Opens P 32 (fun L : List (List Rec) => [encRows L]) RowsOk := by
  have h := opens_slice (sz := 1) (B := 24) Try.underlying32 (by kernel_rfl) (by decide) (by kernel_rfl) opRecs
  exact opens_iso id (fun _ => rfl) (fun _ h => ⟨h.1, h.2⟩) h
theorem opAsk15 : Opens P 34 (fun q : List Rec × List ByteArray × List Int × List Saga × List (List Rec) => [encRecs q.1, encStrs q.2.1, encInts q.2.2.1, encSagas q.2.2.2.1, encRows q.2.2.2.2]) (fun q => AskOk q.1 q.2.1 q.2.2.1 q.2.2.2.1 ∧ RowsOk q.2.2.2.2) := by
  have h := opens_struct (total := 5) Try.underlying34 (by kernel_rfl) (from_cons 4 rfl rfl (by kernel_rfl) opAsk (from_last 1 rfl rfl (by kernel_rfl) rfl opRows))
  exact opens_iso (fun q : (List Rec × List ByteArray × List Int × List Saga) × List (List Rec) => (q.1.1, q.1.2.1, q.1.2.2.1, q.1.2.2.2, q.2)) (fun _ => rfl) (fun _ h => ⟨h.1, h.2⟩) h
end Go.Proofs.Yteimnlmianfldaa.Rx

/- What is known of slots, said of values that stand for more. -/
set_option linter.unusedVariables false
namespace Go.Rx
open Go.RowKit
def agreeW (sl : Slots) : List (Nat × AV) → Prop
  | [] => True
  | (t, x) :: l => WkA (sl t) x ∧ agreeW sl l
theorem agreeW_get {sl : Slots} : ∀ {S : List (Nat × AV)} {t : Nat}, agreeW sl S → mkS S t = .un ∨ WkA (sl t) (mkS S t)
  | [], t, _ => .inl rfl
  | (t0, x) :: S, t, h => by
    by_cases e : t = t0
    · subst e
      right
      have : mkS ((t, x) :: S) t = x := by simp [mkS, List.lookup]
      rw [this]; exact h.1
    · have : mkS ((t0, x) :: S) t = mkS S t := by
        have hb : (t == t0) = false := by simpa using e
        simp [mkS, List.lookup, hb]
      rw [this]
      exact agreeW_get h.2
theorem AW.wk {P : Program} {n : Fr} {c : Code} {Q : Post} {sl : Slots} {bk : List Blk} (S : List (Nat × AV)) (h : agreeW sl S) (hm : AW P n c Q (mkS S) bk) : AW P n c Q sl bk := by
  refine ⟨fun C G a w hn hr => hm.out C G a w hn ⟨hr.size, hr.dfr, fun t => ?_, hr.mem⟩⟩
  rcases agreeW_get (t := t) h with h1 | h1
  · rw [h1]; trivial
  · exact wkA_rep h1 (hr.slots t)
end Go.Rx

/- Records in order tell for each beginning, too, what they tell: the law. -/
set_option linter.unusedVariables false
set_option linter.unusedSimpArgs false
namespace Go.Rx
def preF (l : List Rec) (n : Nat) : List Saga := (foldL [] (l.take n)).getD []
theorem fold_append : ∀ (a b : List Rec) (y : List Saga), foldL y (a ++ b) = (foldL y a).bind fun x => foldL x b
  | [], b, y => rfl
  | r :: a, b, y => by
    rw [List.cons_append, foldL, foldL]
    split
    · exact fold_append a b _
    · rfl
theorem fold_some {l : List Rec} {all : List Saga} (h : foldL [] l = some all) (n : Nat) : foldL [] (l.take n) = some (preF l n) := by
  have h1 := fold_append (l.take n) (l.drop n) []
  rw [List.take_append_drop, h] at h1
  unfold preF
  cases hx : foldL [] (l.take n) with
  | none => rw [hx] at h1; cases h1
  | some x => rfl
theorem pre_next {l : List Rec} {all : List Saga} (h : foldL [] l = some all) {n : Nat} (hn : n < l.length) : goesB (preF l n) l[n] = true ∧ preF l (n + 1) = stepL (preF l n) l[n] := by
  have h1 := fold_some h (n + 1)
  rw [take_succ' hn, fold_append, fold_some h n] at h1
  simp only [Option.bind_some, foldL] at h1
  split at h1
  · rename_i hg
    exact ⟨hg, (Option.some.inj h1).symm⟩
  · cases h1
theorem pre_all {l : List Rec} {all : List Saga} (h : foldL [] l = some all) : preF l l.length = all := by
  have h1 := fold_some h l.length
  rw [List.take_length, h] at h1
  exact (Option.some.inj h1).symm
theorem pre_sgs {l : List Rec} {all : List Saga} (h : foldL [] l = some all) (ha : l.all recB = true) (hok : ∀ r ∈ l, r.Ok) (n : Nat) : Sgs (preF l n) :=
  sgs_fold sgs_nil (fun r hr => List.all_eq_true.1 ha r (List.mem_of_mem_take hr)) (fun r hr => hok r (List.mem_of_mem_take hr)) (fold_some h n)
theorem of_take {l : List Rec} {all : List Saga} (h : foldL [] l = some all) (ha : l.all recB = true) (n : Nat) : ofP (l.take n) = (preF l n, 0) := by
  have : (l.take n).all recB = true := List.all_eq_true.2 fun r hr => List.all_eq_true.1 ha r (List.mem_of_mem_take hr)
  rw [ofP, if_pos this, fold_some h n]
theorem of_zero {l : List Rec} (h : (ofP l).2 = 0) : l.all recB = true ∧ ∃ all, foldL [] l = some all ∧ ofP l = (all, 0) := by
  unfold ofP at h ⊢
  split at h
  · rename_i ha
    refine ⟨ha, ?_⟩
    rw [if_pos ha]
    split at h
    · rename_i x hx; exact ⟨x, hx, rfl⟩
    · cases h
  · cases h
/-- What a step does to sagas: one more, or one changed. -/
structure Stepped (y x : List Saga) (r : Rec) : Prop where
  lo : y.length ≤ x.length
  hi : x.length ≤ y.length + 1
  idl : r.id ≤ x.length
  idn : ¬ r.kind = 1 → x.length = y.length ∧ ∃ s : Saga, y[(r.id - 1).toNat]? = some s ∧ (applyS s r) = (nextS s r, 0) ∧ x[(r.id - 1).toNat]? = some (nextS s r)
  oth : ∀ k : Nat, k < y.length → (k : Int) ≠ r.id - 1 → x[k]? = y[k]?
theorem stepped {y : List Saga} {r : Rec} (hy : Sgs y) (hr : recB r = true) (hg : goesB y r = true) : Stepped y (stepL y r) r := by
  have hid := rec_id hr
  by_cases k : r.kind = 1
  · obtain ⟨h1, h2⟩ := goes_begin hg k
    rw [stepL, if_pos k]
    refine ⟨by simp, by simp, by rw [h1]; simp, fun e => absurd k e, fun j hj _ => by rw [List.getElem?_append_left hj]⟩
  · obtain ⟨s, h1, h2, h3, h4⟩ := goes_on hg k
    have hl := (List.getElem?_eq_some_iff.1 h1).1
    have hs := hy.sg _ _ h1
    have e1 : stepL y r = y.set (r.id - 1).toNat (nextS s r) := by rw [stepL, if_neg k, h1]
    rw [e1]
    have happ : (applyS s r).2 = 0 := apply_goes hs.may hr h2 h3 h4
    have hq := (apply_went hs.may happ).2.2.2.2
    refine ⟨by simp, by simp, by rw [List.length_set]; omega, fun _ => ⟨by simp, s, h1, Prod.ext hq happ, by rw [List.getElem?_set_self hl]⟩, fun j hj hne => ?_⟩
    rw [List.getElem?_set_ne (by omega)]
def lastP (l : List Rec) (n : Nat) : PV := if n = 0 then .sc (.slice none 0 0) else .sl 9 ((preF l n).map Saga.enc)
theorem last_wk (l : List Rec) (n : Nat) : WkL (.pv (lastP l n)) (.pv (.sl 9 ((preF l n).map Saga.enc))) := by
  unfold lastP
  split
  · rename_i h; subst h; exact wkN 9
  · exact wkE _
end Go.Rx
namespace Go.Proofs.Yteimnlmianfldaa.Rx
open Go.Rx Go.Proofs Go.Proofs.Yteimnlmianfldaa.RxH

set_option maxHeartbeats 1000000 in
set_option maxRecDepth 100000 in
theorem replayMore_con (R : List Rec) (S : List ByteArray) (N : List Int) (G : List Saga) (L : List (List Rec)) (h : AskOk R S N G) (hL : RowsOk L) : Con P 6 [encAsk15 R S N G L] (Bl true) [] := by
  obtain ⟨hv, hheavy⟩ := heavy15_con R S N G L h hL
  have hlen := hL.len
  have hm : (L.map fun l => [encRecs l]).length = L.length := List.length_map ..
  refine Con.of T_ok Try.func6 rfl (by kernel_rfl) (by kernel_rfl) (aw_of T_ok (by kernel_rfl) ?_)
  conv => whnf
  refine callS hheavy rfl ?_
  conv => whnf
  split <;> rename_i hh <;> conv => whnf
  · exact finB ⟨rfl⟩
  refine AW.loop (fun i : Nat => i ≤ L.length) (fun i => [(1, .lf (.ptr 0 0)), (3, Go.Rx.I i)]) (fun _ => [ask15V R S N G L]) (fun i => L.length - i) [] ?_ ?_
  · exact ⟨0, Nat.zero_le _, ⟨rfl, rfl, trivial⟩, ⟨[], rfl⟩, rfl, rfl⟩
  rintro i hi
  have wi : IntKind.i64.wrap ((i : Int) + 1) = ((i + 1 : Nat) : Int) := wrapI (by omega)
  refine aw_of T_ok (by kernel_rfl) ?_
  conv => whnf
  split <;> rename_i hlt <;> conv => whnf
  rotate_left
  · refine callS wakes15_con rfl ?_
    conv => whnf
    exact finB ⟨rfl⟩
  have hiL : i < L.length := by have : (i : Int) < ((L.map fun l => [encRecs l]).length : Nat) := of_decide_eq_true hlt
                                omega
  split <;> rename_i h12 <;> conv => whnf
  rotate_left
  · refine callS wakes15_con rfl ?_
    conv => whnf
    exact finB ⟨rfl⟩
  have hrow : (L.map fun l => [encRecs l])[i]? = some [encRecs L[i]] := by simp [hiL]
  obtain ⟨hll, hlo⟩ := hL.row _ (List.getElem_mem hiL)
  generalize L[i] = l at hrow hll hlo
  have hlm : (l.map Rec.enc).length = l.length := List.length_map ..
  refine ⟨by omega, _, hrow, ?_⟩
  conv => whnf
  have co := of_con l (by omega) hlo
  have he := of_err l
  have hz := of_zero (l := l)
  generalize ofP l = q at co he hz
  obtain ⟨all, e⟩ := q
  simp only at he hz
  refine callU co (fun _ => rfl) ?_
  conv => whnf
  refine callS (num_con e he) rfl ?_
  conv => whnf
  split <;> rename_i h5 <;> conv => whnf
  · exact ⟨i + 1, ⟨hiL, by omega⟩, ⟨rfl, congrArg Go.Rx.I wi, trivial⟩, ⟨_, rfl⟩, rfl, rfl⟩
  have he0 : e = 0 := by simpa using h5
  obtain ⟨ha, all', hf, hq⟩ := hz he0
  cases hq
  clear h5 he co
  refine AW.loop (fun n : Nat => n ≤ l.length) (fun n => [(1, .lf (.ptr 0 0)), (3, Go.Rx.I i), (4, .lf (.pv (encSagas all))), (6, .lf (.pv (lastP l n))), (7, Go.Rx.I n)]) (fun _ => [ask15V R S N G L]) (fun n => l.length - n) [] ?_ ?_
  · exact ⟨0, Nat.zero_le _, ⟨rfl, rfl, rfl, rfl, rfl, trivial⟩, ⟨[], rfl⟩, rfl, rfl⟩
  rintro n hn
  have hsg := pre_sgs hf ha hlo n
  refine AW.wk [(1, .lf (.ptr 0 0)), (3, Go.Rx.I i), (4, .lf (.pv (encSagas all))), (6, .lf (.pv (encSagas (preF l n)))), (7, Go.Rx.I n)] ⟨.inl rfl, .inl rfl, .inl rfl, .inr (.inl ⟨_, _, rfl, rfl, last_wk l n⟩), .inl rfl, trivial⟩ ?_
  refine aw_ofC T_ok 2024 (by kernel_rfl) ?_
  conv => whnf
  refine ⟨by omega, _, hrow, ?_⟩
  conv => whnf
  split <;> rename_i hnl <;> conv => whnf
  rotate_left
  · have hn2 : n = l.length := by have : ¬ ((n : Int) < ((l.map Rec.enc).length : Nat)) := of_decide_eq_false hnl
                                  omega
    subst hn2
    rw [pre_all hf] at hsg ⊢
    have cq := eqSagas_con all all (sg_small hsg) (fun s hs => by
      obtain ⟨j, hj, rfl⟩ := List.mem_iff_getElem.1 hs
      exact (hsg.sg j _ (List.getElem?_eq_getElem hj)).ok.steps.len)
    rw [decide_eq_true rfl] at cq
    refine callS cq rfl ?_
    conv => whnf
    have cc := replayCheck_con all (sg_small hsg) (fun s hs => by
      obtain ⟨j, hj, rfl⟩ := List.mem_iff_getElem.1 hs
      exact (hsg.sg j _ (List.getElem?_eq_getElem hj)).ok)
    rw [tog_sgs hsg] at cc
    refine callS cc rfl ?_
    conv => whnf
    refine callS (num_con 0 (by decide)) rfl ?_
    conv => whnf
    exact ⟨i + 1, ⟨hiL, by omega⟩, ⟨rfl, congrArg Go.Rx.I wi, trivial⟩, ⟨_, rfl⟩, rfl, rfl⟩
  have hn2 : n < l.length := by have : (n : Int) < ((l.map Rec.enc).length : Nat) := of_decide_eq_true hnl
                                omega
  have wn : IntKind.i64.wrap ((n : Int) + 1) = ((n + 1 : Nat) : Int) := wrapI (by omega)
  have hrow2 : (l.map Rec.enc)[n]? = some (l[n]).enc := by simp [hn2]
  have hrn := List.all_eq_true.1 ha _ (List.getElem_mem hn2)
  have hon := hlo _ (List.getElem_mem hn2)
  obtain ⟨hg, hnext⟩ := pre_next hf hn2
  have hst := stepped hsg hrn hg
  rw [← hnext] at hst
  have hsx := pre_sgs hf ha hlo (n + 1)
  have cx := of_con (l.take (n + 1)) (by rw [List.length_take]; omega) (fun r hr => hlo r (List.mem_of_mem_take hr))
  rw [of_take hf ha, show encRecs (l.take (n + 1)) = .sl 6 ((l.map Rec.enc).take (n + 1)) by rw [encRecs, List.map_take]] at cx
  have hlp : lastP l (n + 1) = encSagas (preF l (n + 1)) := by rw [lastP, if_neg (by omega)]
  generalize l[n] = r at hrow2 hrn hon hg hst
  have hid := rec_id hrn
  clear hnext hg
  generalize preF l (n + 1) = x at hst hsx cx hlp
  generalize preF l n = y at hst hsg
  have hxl := hsx.len
  have hyl := hsg.len
  have hxm : (x.map Saga.enc).length = x.length := List.length_map ..
  have hym : (y.map Saga.enc).length = y.length := List.length_map ..
  have hlo1 := hst.lo
  have hhi1 := hst.hi
  have hil1 := hst.idl
  refine ⟨by omega, _, hrow, ?_⟩
  conv => whnf
  refine ⟨by omega, r.enc, hrow2, ?_⟩
  conv => whnf
  refine ⟨by omega, _, hrow, ?_⟩
  conv => whnf
  refine ⟨by decide, by rw [wn]; omega, by rw [wn, hlm]; omega, ?_⟩
  conv => whnf
  rw [wn]
  refine callU cx (fun _ => rfl) ?_
  conv => whnf
  refine callS (num_con 0 (by decide)) rfl ?_
  conv => whnf
  have wy : IntKind.i64.wrap (((y.map Saga.enc).length : Int) + 1) = ((y.length + 1 : Nat) : Int) := by rw [hym]; exact wrapI (by omega)
  have w1 : IntKind.i64.wrap (r.id - 1) = r.id - 1 := wrapI (by omega)
  split <;> rename_i t1 <;> conv => whnf
  · have t1' : ((x.map Saga.enc).length : Int) < (y.map Saga.enc).length := of_decide_eq_true t1; omega
  split <;> rename_i t2 <;> conv => whnf
  · have t2' : ((x.map Saga.enc).length : Int) > IntKind.i64.wrap (((y.map Saga.enc).length : Int) + 1) := of_decide_eq_true t2
    rw [wy] at t2'; omega
  split <;> rename_i t3 <;> conv => whnf
  · have t3' : r.id > ((x.map Saga.enc).length : Int) := of_decide_eq_true t3; omega
  split <;> rename_i t4 <;> conv => whnf
  · have t4' : r.id < 1 := of_decide_eq_true t4; omega
  refine AW.loop (fun k : Nat => k ≤ y.length) (fun k => [(1, .lf (.ptr 0 0)), (3, Go.Rx.I i), (4, .lf (.pv (encSagas all))), (6, .lf (.pv (encSagas y))), (7, Go.Rx.I n), (8, .lf (.ptr 1 0)), (9, .lf (.pv (encSagas x))), (11, Go.Rx.I k)]) (fun _ => [ask15V R S N G L, recV r]) (fun k => y.length - k) [] ?_ ?_
  · exact ⟨0, Nat.zero_le _, ⟨rfl, rfl, rfl, rfl, rfl, rfl, rfl, rfl, trivial⟩, ⟨[], rfl⟩, rfl, rfl⟩
  rintro k hk
  have wk : IntKind.i64.wrap ((k : Int) + 1) = ((k + 1 : Nat) : Int) := wrapI (by omega)
  have next : ∃ n', (n' ≤ l.length ∧ l.length - n' < l.length - n) ∧ n' = n + 1 := ⟨n + 1, ⟨hn2, by omega⟩, rfl⟩
  refine aw_of T_ok (by kernel_rfl) ?_
  conv => whnf
  split <;> rename_i hky <;> conv => whnf
  · have hk2 : k < y.length := by have : (k : Int) < ((y.map Saga.enc).length : Nat) := of_decide_eq_true hky
                                  omega
    refine AW.draw T_ok rfl (seqPl 0 17) (by kernel_rfl) (by kernel_rfl) ?_
    conv => whnf
    split <;> rename_i hne <;> conv => whnf
    · have hne' : (k : Int) ≠ r.id - 1 := by
        have : ((k : Int) != IntKind.i64.wrap (r.id - 1)) = true := hne
        rw [w1] at this
        simpa using this
      have ho := hst.oth k hk2 hne'
      have hyk := List.getElem?_eq_getElem hk2
      have hsk := hsg.sg k _ hyk
      generalize y[k] = s at hyk hsk
      rw [hyk] at ho
      have r1 : (x.map Saga.enc)[k]? = some s.enc := by rw [List.getElem?_map, ho]; rfl
      have r2 : (y.map Saga.enc)[k]? = some s.enc := by rw [List.getElem?_map, hyk]; rfl
      refine ⟨by omega, s.enc, r1, ?_⟩
      conv => whnf
      refine ⟨by omega, s.enc, r2, ?_⟩
      conv => whnf
      have ce := eqSaga_con s s hsk.ok.steps.len
      rw [decide_eq_true rfl] at ce
      refine callS ce rfl ?_
      conv => whnf
      exact ⟨k + 1, ⟨hk2, by omega⟩, ⟨rfl, rfl, rfl, rfl, rfl, rfl, rfl, congrArg Go.Rx.I wk, trivial⟩, ⟨_, rfl⟩, rfl, rfl⟩
    · exact ⟨k + 1, ⟨hk2, by omega⟩, ⟨rfl, rfl, rfl, rfl, rfl, rfl, rfl, congrArg Go.Rx.I wk, trivial⟩, ⟨_, rfl⟩, rfl, rfl⟩
  have back : AV.lf (.pv (encSagas x)) = AV.lf (.pv (lastP l (n + 1))) := by rw [hlp]
  split <;> rename_i hkd <;> conv => whnf
  rotate_left
  · exact ⟨n + 1, ⟨hn2, by omega⟩, ⟨rfl, rfl, rfl, back, congrArg Go.Rx.I wn, trivial⟩, ⟨_, rfl⟩, rfl, rfl⟩
  have hk1 : ¬ r.kind = 1 := by simpa using hkd
  obtain ⟨hxy, s, hys, happ, hxs⟩ := hst.idn hk1
  have hss := hsg.sg _ _ hys
  split <;> rename_i t5 <;> conv => whnf
  · have t5' : r.id > ((y.map Saga.enc).length : Int) := of_decide_eq_true t5; omega
  have r1 : (y.map Saga.enc)[(IntKind.i64.wrap (r.id - 1)).toNat]? = some s.enc := by rw [w1, List.getElem?_map, hys]; rfl
  have r2 : (x.map Saga.enc)[(IntKind.i64.wrap (r.id - 1)).toNat]? = some (nextS s r).enc := by rw [w1, List.getElem?_map, hxs]; rfl
  have hix : 0 ≤ IntKind.i64.wrap (r.id - 1) := by rw [w1]; omega
  have ca := apply_con s r hss.ok hon
  rw [happ] at ca
  have hzl : (nextS s r).steps.length * 80 ≤ 140737488351232 := by rw [(next_keep s r).2.2]; exact hss.ok.steps.len
  generalize nextS s r = z at ca r2 hzl
  refine AW.cut (fun _ : Unit => True) (fun _ => [(1, .lf (.ptr 0 0)), (3, Go.Rx.I i), (4, .lf (.pv (encSagas all))), (6, .lf (.pv (encSagas y))), (7, Go.Rx.I n), (8, .lf (.ptr 1 0)), (9, .lf (.pv (encSagas x))), (12, .lf (.ptr 2 0)), (13, Go.Rx.I 0)]) (fun _ => [ask15V R S N G L, recV r, sagaV z]) [] ?_ ?_
  · refine AW.draw T_ok rfl (.one 0 (.one 1 (.one 2 (.one 3 (.one 4 (.one 5 (.one 6 (.two 7 (listPl [8, 9, 10, 11, 12, 13]) 11 (listPl [7, 8, 9, 10, 12, 13]))))))))) (by kernel_rfl) (by kernel_rfl) ?_
    conv => whnf
    refine ⟨hix, s.enc, r1, ?_⟩
    conv => whnf
    refine ⟨?_, ?_⟩ <;> conv => whnf
    · refine callU ca (fun _ => rfl) ?_
      conv => whnf
      exact ⟨(), trivial, ⟨rfl, rfl, rfl, rfl, rfl, rfl, rfl, rfl, rfl, trivial⟩, ⟨[], rfl⟩, rfl, rfl⟩
    · refine callU ca (fun _ => rfl) ?_
      conv => whnf
      exact ⟨(), trivial, ⟨rfl, rfl, rfl, rfl, rfl, rfl, rfl, rfl, rfl, trivial⟩, ⟨[], rfl⟩, rfl, rfl⟩
  rintro _ _
  refine aw_of T_ok (by kernel_rfl) ?_
  conv => whnf
  refine AW.draw T_ok rfl (seqPl 0 21) (by kernel_rfl) (by kernel_rfl) ?_
  conv => whnf
  refine callS (num_con 0 (by decide)) rfl ?_
  conv => whnf
  refine ⟨hix, z.enc, r2, ?_⟩
  conv => whnf
  have ce := eqSaga_con z z hzl
  rw [decide_eq_true rfl] at ce
  refine callS ce rfl ?_
  conv => whnf
  split <;> rename_i t6 <;> conv => whnf
  · have t6' : (((x.map Saga.enc).length : Int) != (y.map Saga.enc).length) = true := t6
    rw [hxm, hym, hxy] at t6'
    simp at t6'
  exact ⟨n + 1, ⟨hn2, by omega⟩, ⟨rfl, rfl, rfl, back, congrArg Go.Rx.I wn, trivial⟩, ⟨_, rfl⟩, rfl, rfl⟩
end Go.Proofs.Yteimnlmianfldaa.Rx

/- Records in order with one left out, twice, exchanged, or of another saga: the law. -/
set_option linter.unusedVariables false
set_option linter.unusedSimpArgs false
namespace Go.Rx
def outL (l : List Rec) (k : Nat) : List Rec := l.take k ++ l.drop (k + 1)
def twiceL (l : List Rec) (k : Nat) (r : Rec) : List Rec := l.take (k + 1) ++ [r] ++ l.drop (k + 1)
def turnL (l : List Rec) (k : Nat) (r0 r : Rec) : List Rec := (l.set k r0).set 0 r
def otherR (r : Rec) : Rec := ⟨r.kind, IntKind.i64.wrap (1 + r.id.tmod 3), r.n, r.key, r.body, r.steps⟩
def otherL (l : List Rec) (k : Nat) (r : Rec) : List Rec := l.set k (otherR r)
def fourL (l : List Rec) (k : Nat) (r0 r : Rec) : List (List Rec) := [outL l k, twiceL l k r, turnL l k r0 r, otherL l k r]
structure Four (A : List (List Rec)) : Prop where
  len : A.length = 4
  ok : ∀ l ∈ A, l.length * 80 ≤ 140737488355328 ∧ ∀ r ∈ l, r.Ok
theorem four_ok {l : List Rec} {k : Nat} {r r0 : Rec} (hl : l.length * 80 ≤ 140737488351232) (hok : ∀ r ∈ l, r.Ok) (hr : r.Ok) (h0 : r0.Ok) : Four (fourL l k r0 r) := by
  refine ⟨rfl, ?_⟩
  intro x hx
  unfold fourL at hx
  simp only [List.mem_cons, List.not_mem_nil, or_false] at hx
  rcases hx with rfl | rfl | rfl | rfl
  · refine ⟨by simp [outL]; omega, fun y hy => ?_⟩
    rw [outL, List.mem_append] at hy
    rcases hy with hy | hy
    · exact hok y (List.mem_of_mem_take hy)
    · exact hok y (List.mem_of_mem_drop hy)
  · refine ⟨by simp [twiceL]; omega, fun y hy => ?_⟩
    rw [twiceL, List.mem_append, List.mem_append] at hy
    rcases hy with (hy | hy) | hy
    · exact hok y (List.mem_of_mem_take hy)
    · simp at hy; rw [hy]; exact hr
    · exact hok y (List.mem_of_mem_drop hy)
  · refine ⟨by simp [turnL]; omega, fun y hy => ?_⟩
    rcases List.mem_or_eq_of_mem_set hy with hy | hy
    · rcases List.mem_or_eq_of_mem_set hy with hy | hy
      · exact hok y hy
      · rw [hy]; exact h0
    · rw [hy]; exact hr
  · refine ⟨by simp [otherL]; omega, fun y hy => ?_⟩
    rcases List.mem_or_eq_of_mem_set hy with hy | hy
    · exact hok y hy
    · rw [hy]; exact ⟨hr.key, hr.body, hr.steps⟩
end Go.Rx
namespace Go.Proofs.Yteimnlmianfldaa.Rx
open Go.Rx Go.Proofs Go.Proofs.Yteimnlmianfldaa.RxH

theorem of_fold {l : List Rec} (h : l.all recB = true) : ofP l = ((foldP l).1, if (foldP l).2 then 0 else 10) := by
  rw [ofP, if_pos h, foldP]
  cases foldL [] l <;> rfl
theorem of_form {l : List Rec} (h : l.all recB = false) : ofP l = ([], 1) := by rw [ofP, if_neg (by rw [h]; decide)]
theorem fold_no {l : List Rec} (h : (foldP l).2 = false) : (foldP l).1 = [] := by
  unfold foldP at *
  cases hx : foldL [] l with
  | none => rfl
  | some x => rw [hx] at h; cases h
set_option maxHeartbeats 2000000 in
set_option maxRecDepth 100000 in
theorem replayBroken_con (R : List Rec) (S : List ByteArray) (N : List Int) (G : List Saga) (L : List (List Rec)) (h : AskOk R S N G) (hL : RowsOk L) : Con P 3 [encAsk15 R S N G L] (Bl true) [] := by
  obtain ⟨hv, hheavy⟩ := heavy15_con R S N G L h hL
  have hlen := hL.len
  have hm : (L.map fun l => [encRecs l]).length = L.length := List.length_map ..
  refine Con.of T_ok Try.func3 rfl (by kernel_rfl) (by kernel_rfl) (aw_of T_ok (by kernel_rfl) ?_)
  conv => whnf
  refine callS hheavy rfl ?_
  conv => whnf
  split <;> rename_i hh <;> conv => whnf
  · exact finB ⟨rfl⟩
  refine AW.loop (fun i : Nat => i ≤ L.length) (fun i => [(1, .lf (.ptr 0 0)), (3, Go.Rx.I i)]) (fun _ => [ask15V R S N G L]) (fun i => L.length - i) [] ?_ ?_
  · exact ⟨0, Nat.zero_le _, ⟨rfl, rfl, trivial⟩, ⟨[], rfl⟩, rfl, rfl⟩
  rintro i hi
  have wi : IntKind.i64.wrap ((i : Int) + 1) = ((i + 1 : Nat) : Int) := wrapI (by omega)
  refine aw_of T_ok (by kernel_rfl) ?_
  conv => whnf
  split <;> rename_i hlt <;> conv => whnf
  rotate_left
  · refine callS wakes15_con rfl ?_
    conv => whnf
    exact finB ⟨rfl⟩
  have hiL : i < L.length := by have : (i : Int) < ((L.map fun l => [encRecs l]).length : Nat) := of_decide_eq_true hlt
                                omega
  split <;> rename_i h4 <;> conv => whnf
  rotate_left
  · refine callS wakes15_con rfl ?_
    conv => whnf
    exact finB ⟨rfl⟩
  have hrow : (L.map fun l => [encRecs l])[i]? = some [encRecs L[i]] := by simp [hiL]
  obtain ⟨hll, hlo⟩ := hL.row _ (List.getElem_mem hiL)
  generalize L[i] = l at hrow hll hlo
  have hlm : (l.map Rec.enc).length = l.length := List.length_map ..
  refine AW.loop (fun k : Nat => k ≤ l.length) (fun k => [(1, .lf (.ptr 0 0)), (3, Go.Rx.I i), (4, Go.Rx.I k)]) (fun _ => [ask15V R S N G L]) (fun k => l.length - k) [] ?_ ?_
  · exact ⟨0, Nat.zero_le _, ⟨rfl, rfl, rfl, trivial⟩, ⟨[], rfl⟩, rfl, rfl⟩
  rintro k hk
  have wk : IntKind.i64.wrap ((k : Int) + 1) = ((k + 1 : Nat) : Int) := wrapI (by omega)
  refine aw_ofC T_ok 2011 (by kernel_rfl) ?_
  conv => whnf
  refine ⟨by omega, _, hrow, ?_⟩
  conv => whnf
  split <;> rename_i hkl <;> conv => whnf
  rotate_left
  · exact ⟨i + 1, ⟨hiL, by omega⟩, ⟨rfl, congrArg Go.Rx.I wi, trivial⟩, ⟨_, rfl⟩, rfl, rfl⟩
  have hk2 : k < l.length := by have : (k : Int) < ((l.map Rec.enc).length : Nat) := of_decide_eq_true hkl
                                omega
  split <;> rename_i h12 <;> conv => whnf
  rotate_left
  · exact ⟨i + 1, ⟨hiL, by omega⟩, ⟨rfl, congrArg Go.Rx.I wi, trivial⟩, ⟨_, rfl⟩, rfl, rfl⟩
  have hrk : (l.map Rec.enc)[k]? = some (l[k]).enc := by simp [hk2]
  have hr0 : (l.map Rec.enc)[0]? = some (l[0]).enc := by simp [show 0 < l.length by omega]
  have ok := hlo _ (List.getElem_mem hk2)
  have ok0 := hlo _ (List.getElem_mem (show 0 < l.length by omega))
  generalize l[k] = r at hrk ok
  generalize l[0] = r0 at hr0 ok0
  refine ⟨by omega, _, hrow, ?_⟩
  conv => whnf
  have ct : ∀ m : Nat, Con P 8 [.lf (.pv (.sl 6 ((l.map Rec.enc).take m)))] (.lf (.own 0 (l.take m).length)) [.arr 39 6 ((l.map Rec.enc).take m)] := fun m => by
    have := copyRecsO_con (l.take m) (by rw [List.length_take]; omega) (fun y hy => hlo y (List.mem_of_mem_take hy))
    rw [encRecs, List.map_take] at this
    exact this
  have ltk : (l.take k).length = k := by rw [List.length_take]; omega
  have ltk1 : (l.take (k + 1)).length = k + 1 := by rw [List.length_take]; omega
  have ldk1 : ((l.map Rec.enc).drop (k + 1)).length = l.length - (k + 1) := by rw [List.length_drop]; omega
  refine AW.draw T_ok rfl (.one 0 (.one 1 (.one 4 (.one 5 (.one 6 (.pre 2 (.pre 7 (.one 3 (.one 8 (.one 9 .done)))))))))) (by kernel_rfl) (by kernel_rfl) ?_
  conv => whnf
  refine ⟨by decide, by omega, by rw [hlm]; omega, ?_⟩
  conv => whnf
  refine ⟨by rw [wk]; omega, by rw [wk, hlm]; omega, Int.le_refl _, ?_⟩
  conv => whnf
  refine ⟨_, _, _, wk_refl _, ct k, .inr ?_⟩
  conv => whnf
  have hd : ((l.map Rec.enc).take ((l.map Rec.enc).length : Int).toNat).drop (IntKind.i64.wrap ((k : Int) + 1)).toNat = (l.map Rec.enc).drop (k + 1) := by rw [wk, Int.toNat_natCast, Int.toNat_natCast, List.take_length]
  refine ⟨(l.map Rec.enc).drop (k + 1), .inl (congrArg (PV.sl 6) hd), ?_⟩
  conv => whnf
  refine ⟨by rw [List.length_take, List.length_take, hlm], by show ((l.take k).length + ((l.map Rec.enc).drop (k + 1)).length) * 80 ≤ _; rw [ltk, ldk1]; omega, ?_⟩
  conv => whnf
  refine AW.cut (fun _ : Unit => True) (fun _ => [(1, .lf (.ptr 0 0)), (3, Go.Rx.I i), (4, Go.Rx.I k), (5, .lf (.pv (encRecs l))), (6, .lf (.pv (encRecs (outL l k)))), (7, .lf (.pv (encRecs (twiceL l k r))))]) (fun _ => [ask15V R S N G L]) [.frz 6, .frz 7] ?_ ?_
  · refine AW.draw T_ok rfl (.one 0 (.one 1 (.one 2 (.one 5 (.one 6 (.one 7 (.one 8 (.pre 3 (.pre 11 (.pre 12 (.pre 13 (.pre 14 (.two 4 (listPl [9, 10, 15, 16]) 9 (listPl [4, 10, 15, 16])))))))))))))) (by kernel_rfl) (by kernel_rfl) ?_
    conv => whnf
    refine ⟨by omega, _, hrk, ?_⟩
    conv => whnf
    refine ⟨by decide, by rw [wk]; omega, by rw [wk, hlm]; omega, ?_⟩
    conv => whnf
    refine ⟨by rw [wk]; omega, by rw [wk, hlm]; omega, Int.le_refl _, ?_⟩
    conv => whnf
    have e1 : (IntKind.i64.wrap ((k : Int) + 1)).toNat = k + 1 := by rw [wk]; rfl
    have ct1 : Con P 8 [.lf (.pv (.sl 6 ((l.map Rec.enc).take (IntKind.i64.wrap ((k : Int) + 1)).toNat)))] (.lf (.own 0 (k + 1))) [.arr 39 6 ((l.map Rec.enc).take (k + 1))] := by
      have := ct (k + 1)
      rw [ltk1] at this
      rw [e1]; exact this
    have h6 : ((l.map Rec.enc).take k ++ (l.map Rec.enc).drop (k + 1)).length = (l.take k).length + ((l.map Rec.enc).drop (k + 1)).length := by rw [List.length_append, List.length_take, List.length_take, hlm]
    have h7 : ((l.map Rec.enc).take (k + 1) ++ [r.enc] ++ (l.map Rec.enc).drop (k + 1)).length = k + 1 + 1 + ((l.map Rec.enc).drop (k + 1)).length := by rw [List.length_append, List.length_append, List.length_take, hlm]; simp; omega
    have e6 : (l.map Rec.enc).take k ++ (l.map Rec.enc).drop (k + 1) = (outL l k).map Rec.enc := by rw [outL, List.map_append, List.map_take, List.map_drop]
    have e7 : (l.map Rec.enc).take (k + 1) ++ [r.enc] ++ (l.map Rec.enc).drop (k + 1) = (twiceL l k r).map Rec.enc := by rw [twiceL, List.map_append, List.map_append, List.map_take, List.map_drop]; rfl
    refine ⟨?_, ?_⟩ <;> conv => whnf
    · refine ⟨_, _, _, wk_refl _, ct1, .inr ?_⟩
      conv => whnf
      refine ⟨rfl, _, .inl rfl, ?_⟩
      conv => whnf
      refine ⟨by rw [List.length_take, hlm]; omega, by show (k + 1 + 1) * 80 ≤ _; omega, ?_⟩
      conv => whnf
      refine ⟨(l.map Rec.enc).drop (k + 1), .inl (congrArg (PV.sl 6) hd), ?_⟩
      conv => whnf
      refine ⟨by show ((l.map Rec.enc).take (k + 1) ++ [r.enc]).length = k + 1 + 1; rw [List.length_append, List.length_take, hlm]; simp; omega, by show (k + 1 + 1 + ((l.map Rec.enc).drop (k + 1)).length) * 80 ≤ _; rw [ldk1]; omega, ?_⟩
      conv => whnf
      refine ⟨h6, ?_⟩
      conv => whnf
      refine ⟨h7, ?_⟩
      conv => whnf
      exact ⟨(), trivial, ⟨rfl, rfl, rfl, rfl, congrArg (fun r => AV.lf (.pv (.sl 6 r))) e6, congrArg (fun r => AV.lf (.pv (.sl 6 r))) e7, trivial⟩, ⟨_, rfl⟩, rfl, rfl⟩
    · conv => whnf
      refine ⟨_, _, _, wk_refl _, ct1, .inr ?_⟩
      conv => whnf
      refine ⟨rfl, _, .inl rfl, ?_⟩
      conv => whnf
      refine ⟨by rw [List.length_take, hlm]; omega, by show (k + 1 + 1) * 80 ≤ _; omega, ?_⟩
      conv => whnf
      refine ⟨(l.map Rec.enc).drop (k + 1), .inl (congrArg (PV.sl 6) hd), ?_⟩
      conv => whnf
      refine ⟨by show ((l.map Rec.enc).take (k + 1) ++ [r.enc]).length = k + 1 + 1; rw [List.length_append, List.length_take, hlm]; simp; omega, by show (k + 1 + 1 + ((l.map Rec.enc).drop (k + 1)).length) * 80 ≤ _; rw [ldk1]; omega, ?_⟩
      conv => whnf
      refine ⟨h6, ?_⟩
      conv => whnf
      refine ⟨h7, ?_⟩
      conv => whnf
      exact ⟨(), trivial, ⟨rfl, rfl, rfl, rfl, congrArg (fun r => AV.lf (.pv (.sl 6 r))) e6, congrArg (fun r => AV.lf (.pv (.sl 6 r))) e7, trivial⟩, ⟨_, rfl⟩, rfl, rfl⟩
  rintro _ _
  refine aw_of T_ok (by kernel_rfl) ?_
  conv => whnf
  refine ⟨_, _, _, wk_refl _, copyRecsO_con l hll hlo, .inr ?_⟩
  conv => whnf
  refine AW.draw T_ok rfl (seqPl 0 14) (by kernel_rfl) (by kernel_rfl) ?_
  conv => whnf
  have h0l : 0 < l.length := by omega
  refine ⟨hlm, Int.le_refl _, by omega, ?_⟩
  conv => whnf
  refine ⟨rfl, hlm, r0.enc, hr0, ?_⟩
  conv => whnf
  refine ⟨hlm, by omega, by omega, ?_⟩
  conv => whnf
  refine ⟨rfl, hlm, r.enc, hrk, ?_⟩
  conv => whnf
  refine ⟨hlm, by omega, by omega, ?_⟩
  conv => whnf
  refine ⟨rfl, hlm, r.enc, hrk, ?_⟩
  conv => whnf
  refine ⟨by decide, ?_⟩
  conv => whnf
  have hs1 : ((l.map Rec.enc).set k r0.enc).length = l.length := by rw [List.length_set, hlm]
  have hs0 : ((l.map Rec.enc).set k r0.enc)[0]? = some r0.enc := by
    rcases Nat.eq_zero_or_pos k with e | e
    · subst e; rw [List.getElem?_set_self (by omega)]
    · rw [List.getElem?_set_ne (by omega)]; exact hr0
  refine ⟨hs1, Int.le_refl _, by omega, ?_⟩
  conv => whnf
  refine ⟨rfl, hs1, r0.enc, hs0, ?_⟩
  conv => whnf
  refine ⟨by decide, ?_⟩
  conv => whnf
  refine ⟨_, _, _, wk_refl _, copyRecsO_con l hll hlo, .inr ?_⟩
  conv => whnf
  refine ⟨hlm, by omega, by omega, ?_⟩
  conv => whnf
  refine ⟨hlm, ?_⟩
  conv => whnf
  refine ⟨rfl, hlm, r.enc, hrk, ?_⟩
  conv => whnf
  refine .inr ⟨by decide, ?_⟩
  conv => whnf
  refine ⟨hlm, by omega, by omega, ?_⟩
  conv => whnf
  refine ⟨hlm, ?_⟩
  conv => whnf
  refine ⟨rfl, hlm, r.enc, hrk, ?_⟩
  conv => whnf
  refine ⟨by decide, ?_⟩
  conv => whnf
  refine ⟨by rw [List.length_set, List.length_set, hlm], ?_⟩
  conv => whnf
  refine ⟨by rw [List.length_set, hlm], ?_⟩
  conv => whnf
  have hF : Four (fourL l k r0 r) := four_ok hll hlo ok ok0
  have eA : [[PV.sl 6 ((outL l k).map Rec.enc)], [PV.sl 6 ((twiceL l k r).map Rec.enc)], [PV.sl 6 (((l.map Rec.enc).set k r0.enc).set 0 r.enc)], [PV.sl 6 ((l.map Rec.enc).set k (otherR r).enc)]] = (fourL l k r0 r).map fun l => [encRecs l] := by
    rw [show ((l.map Rec.enc).set k r0.enc).set 0 r.enc = (turnL l k r0 r).map Rec.enc by rw [turnL, List.map_set, List.map_set], show (l.map Rec.enc).set k (otherR r).enc = (otherL l k r).map Rec.enc by rw [otherL, List.map_set]]; rfl
  refine AW.loop (fun j : Nat => j ≤ 4) (fun j => [(1, .lf (.ptr 0 0)), (3, Go.Rx.I i), (4, Go.Rx.I k), (10, .lf (.pv (encRows (fourL l k r0 r)))), (11, Go.Rx.I j)]) (fun _ => [ask15V R S N G L]) (fun j => 4 - j) [.frz 10] ?_ ?_
  · refine ⟨rfl, ?_⟩
    conv => whnf
    exact ⟨0, Nat.zero_le _, ⟨rfl, rfl, rfl, congrArg (fun r => AV.lf (.pv (.sl 1 r))) eA, rfl, trivial⟩, ⟨_, rfl⟩, rfl, rfl⟩
  rintro j hj
  generalize fourL l k r0 r = A at hF
  have hA4 := hF.len
  have hAok := hF.ok
  have hAm : (A.map fun l => [encRecs l]).length = 4 := by rw [List.length_map, hA4]
  have wj : IntKind.i64.wrap ((j : Int) + 1) = ((j + 1 : Nat) : Int) := wrapI (by omega)
  refine aw_ofC T_ok 1022 (by kernel_rfl) ?_
  conv => whnf
  split <;> rename_i hjl <;> conv => whnf
  rotate_left
  · exact ⟨k + 1, ⟨hk2, by omega⟩, ⟨rfl, rfl, congrArg Go.Rx.I wk, trivial⟩, ⟨_, rfl⟩, rfl, rfl⟩
  have hj4 : j < 4 := by have : (j : Int) < ((A.map fun l => [encRecs l]).length : Nat) := of_decide_eq_true hjl
                         omega
  have hjA : j < A.length := by omega
  have hrow3 : (A.map fun l => [encRecs l])[j]? = some [encRecs A[j]] := by simp [hjA]
  obtain ⟨hcl, hco⟩ := hAok _ (List.getElem_mem hjA)
  generalize A[j] = c at hrow3 hcl hco
  have hcm : (c.map Rec.enc).length = c.length := List.length_map ..
  refine ⟨by omega, _, hrow3, ?_⟩
  conv => whnf
  have co := of_con c hcl hco
  have he := of_err c
  obtain ⟨x, hx⟩ : ∃ x, x = (ofP c).1 := ⟨_, rfl⟩
  obtain ⟨e, hee⟩ : ∃ e, e = (ofP c).2 := ⟨_, rfl⟩
  have hsx : Sgs x := by rw [hx]; exact of_sgs hco
  rw [show ofP c = (x, e) by rw [hx, hee]] at co
  rw [← hee] at he
  refine callU co (fun _ => rfl) ?_
  conv => whnf
  obtain ⟨b0, hb0⟩ : ∃ b0 : Int, b0 = if c.all recB then 0 else 1 := ⟨_, rfl⟩
  refine AW.cut (fun _ : Unit => True) (fun _ => [(1, .lf (.ptr 0 0)), (3, Go.Rx.I i), (4, Go.Rx.I k), (10, .lf (.pv (encRows A))), (11, Go.Rx.I j), (12, .lf (.pv (encSagas x))), (13, Go.Rx.I e), (14, Go.Rx.I b0)]) (fun _ => [ask15V R S N G L]) [] (aw_of T_ok (by kernel_rfl) ?_) ?_
  · conv => whnf
    refine AW.loop (fun q : Nat => q ≤ c.length) (fun q => [(1, .lf (.ptr 0 0)), (3, Go.Rx.I i), (4, Go.Rx.I k), (10, .lf (.pv (encRows A))), (11, Go.Rx.I j), (12, .lf (.pv (encSagas x))), (13, Go.Rx.I e), (14, Go.Rx.I (if (c.take q).all recB then 0 else 1)), (15, Go.Rx.I q)]) (fun _ => [ask15V R S N G L]) (fun q => c.length - q) [] ?_ ?_
    · exact ⟨0, Nat.zero_le _, ⟨rfl, rfl, rfl, rfl, rfl, rfl, rfl, rfl, rfl, trivial⟩, ⟨_, rfl⟩, rfl, rfl⟩
    rintro q hq
    have wq : IntKind.i64.wrap ((q : Int) + 1) = ((q + 1 : Nat) : Int) := wrapI (by omega)
    refine aw_of T_ok (by kernel_rfl) ?_
    conv => whnf
    refine ⟨by omega, _, hrow3, ?_⟩
    conv => whnf
    split <;> rename_i hql <;> conv => whnf
    · have hq2 : q < c.length := by have : (q : Int) < ((c.map Rec.enc).length : Nat) := of_decide_eq_true hql
                                    omega
      have hrow4 : (c.map Rec.enc)[q]? = some (c[q]).enc := by simp [hq2]
      have okq := hco _ (List.getElem_mem hq2)
      have et : (c.take (q + 1)).all recB = ((c.take q).all recB && recB c[q]) := by rw [take_succ' hq2, List.all_append]; simp
      generalize c[q] = y at hrow4 okq et
      refine ⟨by omega, _, hrow3, ?_⟩
      conv => whnf
      refine ⟨by omega, y.enc, hrow4, ?_⟩
      conv => whnf
      refine callS (rec9_con y okq) rfl ?_
      conv => whnf
      split <;> rename_i hy <;> conv => whnf
      · refine ⟨q + 1, ⟨hq2, by omega⟩, ⟨rfl, rfl, rfl, rfl, rfl, rfl, rfl, ?_, congrArg Go.Rx.I wq, trivial⟩, ⟨_, rfl⟩, rfl, rfl⟩
        rw [et, show recB y = false by simpa using hy, Bool.and_false]; rfl
      · refine ⟨q + 1, ⟨hq2, by omega⟩, ⟨rfl, rfl, rfl, rfl, rfl, rfl, rfl, ?_, congrArg Go.Rx.I wq, trivial⟩, ⟨_, rfl⟩, rfl, rfl⟩
        rw [et, show recB y = true by simpa using hy, Bool.and_true]; rfl
    have hq3 : c.length ≤ q := by have : ¬ ((q : Int) < ((c.map Rec.enc).length : Nat)) := of_decide_eq_false hql
                                  omega
    exact ⟨(), trivial, ⟨rfl, rfl, rfl, rfl, rfl, rfl, rfl, congrArg Go.Rx.I (by rw [hb0, List.take_of_length_le hq3]), trivial⟩, ⟨_, rfl⟩, rfl, rfl⟩
  rintro _ _
  have hsteps : ∀ s ∈ x, s.steps.length * 80 ≤ 140737488351232 := fun s hs => by
    obtain ⟨j, hj, rfl⟩ := List.mem_iff_getElem.1 hs
    exact (hsx.sg j _ (List.getElem?_eq_getElem hj)).ok.steps.len
  have cq := eqSagas_con x x (sg_small hsx) hsteps
  rw [decide_eq_true rfl] at cq
  cases hall : c.all recB with
  | false =>
    rw [of_form hall] at hx hee
    rw [hall] at hb0
    simp only [Bool.false_eq_true, if_false] at hx hee hb0
    subst hx; subst hee; subst hb0
    refine aw_of T_ok (by kernel_rfl) ?_
    conv => whnf
    refine callS (num_con 1 (by decide)) rfl ?_
    conv => whnf
    refine callW cq ⟨.inl rfl, .inr (.inl ⟨_, _, rfl, rfl, wkN 9⟩), trivial⟩ rfl ?_
    conv => whnf
    exact ⟨j + 1, ⟨hj4, by omega⟩, ⟨rfl, rfl, rfl, rfl, congrArg Go.Rx.I wj, trivial⟩, ⟨_, rfl⟩, rfl, rfl⟩
  | true =>
    rw [of_fold hall] at hx hee
    simp only at hx hee
    have cf := fold9_con c hcl hco hall
    have hno := fold_no (l := c)
    generalize foldP c = p at cf hx hee hno
    obtain ⟨y, ok⟩ := p
    simp only at hx hee hno
    rw [hall] at hb0
    simp only [if_true] at hb0
    subst hx; subst hb0
    cases ok with
    | true =>
      simp only [if_true] at hee
      subst hee
      refine aw_of T_ok (by kernel_rfl) ?_
      conv => whnf
      refine ⟨by omega, _, hrow3, ?_⟩
      conv => whnf
      refine callU cf (fun _ => rfl) ?_
      conv => whnf
      refine callS (num_con 0 (by decide)) rfl ?_
      conv => whnf
      refine callS cq rfl ?_
      conv => whnf
      exact ⟨j + 1, ⟨hj4, by omega⟩, ⟨rfl, rfl, rfl, rfl, congrArg Go.Rx.I wj, trivial⟩, ⟨_, rfl⟩, rfl, rfl⟩
    | false =>
      simp only [Bool.false_eq_true, if_false] at hee
      subst hee
      have := hno rfl
      subst this
      refine aw_of T_ok (by kernel_rfl) ?_
      conv => whnf
      refine ⟨by omega, _, hrow3, ?_⟩
      conv => whnf
      refine callU cf (fun _ => rfl) ?_
      conv => whnf
      refine callS (num_con 10 (by decide)) rfl ?_
      conv => whnf
      refine callW cq ⟨.inl rfl, .inr (.inl ⟨_, _, rfl, rfl, wkN 9⟩), trivial⟩ rfl ?_
      conv => whnf
      exact ⟨j + 1, ⟨hj4, by omega⟩, ⟨rfl, rfl, rfl, rfl, congrArg Go.Rx.I wj, trivial⟩, ⟨_, rfl⟩, rfl, rfl⟩
end Go.Proofs.Yteimnlmianfldaa.Rx

/- As many sagas as may be, each with its key: the law. -/
set_option linter.unusedVariables false
set_option linter.unusedSimpArgs false
namespace Go.Rx
theorem byteW {x : Nat} (h : x < 256) : IntKind.u8.wrap (x : Int) = ((UInt8.ofNat x).toNat : Int) := by
  have : ∀ x : _root_.Fin 256, IntKind.u8.wrap (x.val : Int) = ((UInt8.ofNat x.val).toNat : Int) := by decide +kernel
  exact this ⟨x, h⟩
def keyR (m id : Nat) : Rec := ⟨1, id, 0, ⟨#[UInt8.ofNat (97 + id), UInt8.ofNat (97 + m)]⟩, ⟨#[98]⟩, [⟨⟨#[97]⟩, 4, ⟨#[115, 101, 110, 100]⟩, ⟨#[114, 101, 99, 97, 108, 108]⟩, ⟨#[]⟩, id⟩]⟩
def keyL (m n : Nat) : List Rec := (List.range n).map fun i => keyR m (i + 1)
def twiceR (m : Nat) : Rec := ⟨1, 3, 0, (keyR m 1).key, ⟨#[98]⟩, (keyR m 3).steps⟩
def moreR (m : Nat) : Rec := ⟨1, 21, 0, (keyR m 1).key, ⟨#[98]⟩, (keyR m 1).steps⟩
theorem keyL_succ (m n : Nat) : keyL m (n + 1) = keyL m n ++ [keyR m (n + 1)] := by rw [keyL, List.range_succ, List.map_append]; rfl
theorem keyL_len (m n : Nat) : (keyL m n).length = n := by simp [keyL]
theorem keyL_at (m : Nat) {n i : Nat} (h : i < n) : (keyL m n)[i]? = some (keyR m (i + 1)) := by simp [keyL, h]
theorem keyR_ok (m id : Nat) : (keyR m id).Ok := ⟨by show (2 : Nat) ≤ _; omega, by show (1 : Nat) ≤ _; omega, by show (1 : Nat) * 80 ≤ _; omega, by
  intro x hx
  have : x = ⟨⟨#[97]⟩, 4, ⟨#[115, 101, 110, 100]⟩, ⟨#[114, 101, 99, 97, 108, 108]⟩, ⟨#[]⟩, id⟩ := by simpa [keyR] using hx
  subst this
  exact ⟨by show (1 : Nat) ≤ _; omega, by show (4 : Nat) ≤ _; omega, by show (6 : Nat) ≤ _; omega, by show (0 : Nat) ≤ _; omega⟩⟩
theorem keyL_ok (m n : Nat) : ∀ r ∈ keyL m n, r.Ok := fun r hr => by
  obtain ⟨i, _, rfl⟩ := List.mem_map.1 hr
  exact keyR_ok _ _
def keyChk (m : Nat) : Bool :=
  decide (ofP (keyL m 20) = ((keyL m 20).map newS, 0)) && (decide ((ofP ([keyR m 1, keyR m 2] ++ [twiceR m])).2 = 10) && (decide ((ofP (keyL m 20 ++ [moreR m])).2 = 1) && ((List.range 20).all fun i => decide (keyI ((keyL m 20).map newS) (keyR m (i + 1)).key = i))))
theorem keyChk_all : ((List.range 9).all keyChk) = true := by kernel_rfl
theorem key_of {m : Nat} (h : m < 9) : ofP (keyL m 20) = ((keyL m 20).map newS, 0) ∧ (ofP ([keyR m 1, keyR m 2] ++ [twiceR m])).2 = 10 ∧ (ofP (keyL m 20 ++ [moreR m])).2 = 1 ∧ ∀ i, i < 20 → keyI ((keyL m 20).map newS) (keyR m (i + 1)).key = i := by
  have h1 := List.all_eq_true.1 keyChk_all m (List.mem_range.2 h)
  unfold keyChk at h1
  simp only [Bool.and_eq_true, decide_eq_true_eq, List.all_eq_true, List.mem_range] at h1
  exact ⟨h1.1, h1.2.1, h1.2.2.1, h1.2.2.2⟩
end Go.Rx
namespace Go.Proofs.Yteimnlmianfldaa.Rx
open Go.Rx Go.Proofs Go.Proofs.Yteimnlmianfldaa.RxH

set_option maxHeartbeats 1000000 in
set_option maxRecDepth 100000 in
theorem replayKeys_con (R : List Rec) (S : List ByteArray) (N : List Int) (G : List Saga) (L : List (List Rec)) (h : AskOk R S N G) (hL : RowsOk L) : Con P 5 [encAsk15 R S N G L] (Bl true) [] := by
  have hlen := hL.len
  have hm : (L.map fun l => [encRecs l]).length = L.length := List.length_map ..
  obtain ⟨m, hmm⟩ : ∃ m : Nat, m = L.length % 9 := ⟨_, rfl⟩
  have hm9 : m < 9 := by omega
  obtain ⟨kO, kT, kM, kI⟩ := key_of hm9
  have hem : ((L.map fun l => [encRecs l]).length : Int) % 9 = (m : Int) := by rw [hm, hmm]; omega
  refine Con.of T_ok Try.func5 rfl (by kernel_rfl) (by kernel_rfl) (aw_ofC T_ok 2006 (by kernel_rfl) ?_)
  conv => whnf
  refine AW.loop (fun n : Nat => n ≤ 20) (fun n => [(1, .lf (.ptr 0 0)), (3, .lf (.own 1 n)), (4, Go.Rx.I ((n + 1 : Nat) : Int))]) (fun n => [ask15V R S N G L, .arr 39 6 ((keyL m n).map Rec.enc)]) (fun n => 20 - n) [.slot 3 39 6] ?_ ?_
  · exact ⟨rfl, 0, Nat.zero_le _, ⟨rfl, rfl, rfl, trivial⟩, ⟨[], rfl⟩, rfl, rfl⟩
  rintro n hn
  have hnl : ((keyL m n).map Rec.enc).length = n := by rw [List.length_map, keyL_len]
  refine aw_of T_ok (by kernel_rfl) ?_
  conv => whnf
  split <;> rename_i hlt <;> conv => whnf
  · have hn2 : n < 20 := by have : ((n + 1 : Nat) : Int) ≤ 20 := of_decide_eq_true hlt
                            omega
    refine .inl ⟨by omega, by decide, by omega, ?_⟩
    conv => whnf
    refine ⟨rfl, ⟨#[UInt8.ofNat (97 + (n + 1)), UInt8.ofNat (97 + m)]⟩, ?_, ?_⟩
    · show [[PV.sc (.int .u8 (IntKind.u8.wrap (IntKind.i64.wrap (97 + ((n + 1 : Nat) : Int)))))], [PV.sc (.int .u8 (IntKind.u8.wrap (IntKind.i64.wrap (97 + ((L.map fun l => [encRecs l]).length : Int) % 9))))]] = [[PV.sc (.int .u8 ((UInt8.ofNat (97 + (n + 1))).toNat : Int))], [PV.sc (.int .u8 ((UInt8.ofNat (97 + m)).toNat : Int))]]
      rw [hem, wrapI (n := 97 + ((n + 1 : Nat) : Int)) (by omega), wrapI (n := 97 + (m : Int)) (by omega), ← byteW (show 97 + (n + 1) < 256 by omega), ← byteW (show 97 + m < 256 by omega)]
      rfl
    conv => whnf
    refine ⟨rfl, ?_⟩
    conv => whnf
    refine ⟨rfl, _, .inl rfl, ?_⟩
    conv => whnf
    refine ⟨hnl, by show (n + 1) * 80 ≤ _; omega, ?_⟩
    conv => whnf
    refine ⟨n + 1, ⟨hn2, by omega⟩, ⟨rfl, rfl, congrArg Go.Rx.I (show IntKind.i64.wrap (((n + 1 : Nat) : Int) + 1) = (((n + 1) + 1 : Nat) : Int) by rw [wrapI (by omega)]; omega), trivial⟩, ⟨[?r1, ?r2, ?r3], ?e⟩, rfl, rfl⟩
    case e =>
      show _ = [_, Blk.arr _ _ ((keyL m (n + 1)).map Rec.enc)] ++ [_, _, _]
      rw [keyL_succ, List.map_append]; rfl
  have hn20 : n = 20 := by have : ¬ (((n + 1 : Nat) : Int) ≤ 20) := of_decide_eq_false hlt
                           omega
  refine AW.meet (fun _ : Unit => True) (fun _ => [(1, .lf (.ptr 0 0)), (3, .lf (.pv (encRecs (keyL m 20))))]) (fun _ => [ask15V R S N G L]) [.frz 3] ?_ ?_
  · refine ⟨hnl, ?_⟩
    conv => whnf
    exact ⟨(), trivial, ⟨rfl, by rw [← hn20]; rfl, trivial⟩, ⟨_, rfl⟩, rfl, rfl⟩
  rintro _ _
  have hkl := keyL_len m 20
  have hkm : ((keyL m 20).map Rec.enc).length = 20 := by rw [List.length_map, hkl]
  have co := of_con (keyL m 20) (by omega) (keyL_ok m 20)
  have hsg : Sgs (ofP (keyL m 20)).1 := of_sgs (keyL_ok m 20)
  rw [kO] at co hsg
  simp only at hsg
  obtain ⟨x, hx⟩ : ∃ x, x = (keyL m 20).map newS := ⟨_, rfl⟩
  rw [← hx] at co hsg kI
  have hxl : x.length = 20 := by rw [hx, List.length_map, hkl]
  have hxm : (x.map Saga.enc).length = 20 := by rw [List.length_map, hxl]
  have hxok : ∀ s ∈ x, s.Ok := fun s hs => by
    obtain ⟨j, hj, rfl⟩ := List.mem_iff_getElem.1 hs
    exact (hsg.sg j _ (List.getElem?_eq_getElem hj)).ok
  have cc := replayCheck_con x (sg_small hsg) hxok
  rw [tog_sgs hsg] at cc
  have cf : ∀ i, i < 20 → Con P 17 [.lf (.pv (encSagas x)), Sx (keyR m (i + 1)).key] (numE (((i + 1 : Nat) : Int), 0)) [] := fun i hi => by
    have := replayFind_con x (keyR m (i + 1)).key (sg_small hsg) hxok
    rw [findP, if_pos (tog_sgs hsg), kI i hi, if_neg (by omega)] at this
    exact this
  have hat : ∀ i, i < 20 → (x.map Saga.enc)[i]? = some (newS (keyR m (i + 1))).enc := fun i hi => by
    rw [hx, List.getElem?_map, List.getElem?_map, keyL_at m hi]; rfl
  have hrt : ∀ i, i < 20 → ((keyL m 20).map Rec.enc)[i]? = some (keyR m (i + 1)).enc := fun i hi => by
    rw [List.getElem?_map, keyL_at m hi]; rfl
  have h3 : (keyL m 20).take 3 = [keyR m 1, keyR m 2, keyR m 3] := rfl
  have cp3 := copyRecsO_con [keyR m 1, keyR m 2, keyR m 3] (by show (3 : Nat) * 80 ≤ _; omega) (by
    intro r hr
    simp only [List.mem_cons, List.not_mem_nil, or_false] at hr
    rcases hr with rfl | rfl | rfl <;> exact keyR_ok _ _)
  have okT : (twiceR m).Ok := ⟨(keyR_ok m 1).key, (keyR_ok m 1).body, (keyR_ok m 3).steps⟩
  have okM : (moreR m).Ok := ⟨(keyR_ok m 1).key, (keyR_ok m 1).body, (keyR_ok m 1).steps⟩
  have coT := of_con ([keyR m 1, keyR m 2] ++ [twiceR m]) (by show (3 : Nat) * 80 ≤ _; omega) (by
    intro r hr
    simp only [List.cons_append, List.nil_append, List.mem_cons, List.not_mem_nil, or_false] at hr
    rcases hr with rfl | rfl | rfl
    · exact keyR_ok _ _
    · exact keyR_ok _ _
    · exact okT)
  have coM := of_con (keyL m 20 ++ [moreR m]) (by rw [List.length_append, hkl]; show (20 + 1) * 80 ≤ _; omega) (by
    intro r hr
    rw [List.mem_append] at hr
    rcases hr with hr | hr
    · exact keyL_ok m 20 r hr
    · simp at hr; rw [hr]; exact okM)
  have eT : ofP ([keyR m 1, keyR m 2] ++ [twiceR m]) = ((ofP ([keyR m 1, keyR m 2] ++ [twiceR m])).1, 10) := Prod.ext rfl kT
  have eM : ofP (keyL m 20 ++ [moreR m]) = ((ofP (keyL m 20 ++ [moreR m])).1, 1) := Prod.ext rfl kM
  rw [eT] at coT
  rw [eM] at coM
  generalize (ofP ([keyR m 1, keyR m 2] ++ [twiceR m])).1 = xT at coT
  generalize (ofP (keyL m 20 ++ [moreR m])).1 = xM at coM
  clear eT eM kO kT kM hx
  refine aw_ofC T_ok 2020 (by kernel_rfl) ?_
  conv => whnf
  refine callU co (fun _ => rfl) ?_
  conv => whnf
  refine callS (num_con 0 (by decide)) rfl ?_
  conv => whnf
  split <;> rename_i t1 <;> conv => whnf
  · have t1' : (((x.map Saga.enc).length : Int) != 20) = true := t1
    rw [hxm] at t1'; cases t1'
  refine callS cc rfl ?_
  conv => whnf
  refine callS (num_con 0 (by decide)) rfl ?_
  conv => whnf
  refine AW.loop (fun i : Nat => i ≤ 20) (fun i => [(1, .lf (.ptr 0 0)), (3, .lf (.pv (encRecs (keyL m 20)))), (5, .lf (.pv (encSagas x))), (7, Go.Rx.I i)]) (fun _ => [ask15V R S N G L]) (fun i => 20 - i) [] ?_ ?_
  · exact ⟨0, Nat.zero_le _, ⟨rfl, rfl, rfl, rfl, trivial⟩, ⟨_, rfl⟩, rfl, rfl⟩
  rintro i hi
  have wi : IntKind.i64.wrap ((i : Int) + 1) = ((i + 1 : Nat) : Int) := wrapI (by omega)
  refine aw_ofC T_ok 2020 (by kernel_rfl) ?_
  conv => whnf
  split <;> rename_i hil <;> conv => whnf
  · have hi2 : i < 20 := by have : (i : Int) < (((keyL m 20).map Rec.enc).length : Nat) := of_decide_eq_true hil
                            omega
    refine ⟨by omega, _, hrt i hi2, ?_⟩
    conv => whnf
    refine callU (cf i hi2) (fun _ => rfl) ?_
    conv => whnf
    refine AW.draw T_ok rfl (seqPl 0 37) (by kernel_rfl) (by kernel_rfl) ?_
    conv => whnf
    refine callS (num_con 0 (by decide)) rfl ?_
    conv => whnf
    refine ⟨by omega, _, hrt i hi2, ?_⟩
    conv => whnf
    split <;> rename_i t2 <;> conv => whnf
    · have t2' : (((i + 1 : Nat) : Int) != ((i + 1 : Nat) : Int)) = true := t2
      rw [neq_self] at t2'; cases t2'
    refine ⟨by omega, _, hat i hi2, ?_⟩
    conv => whnf
    refine ⟨by omega, _, hat i hi2, ?_⟩
    conv => whnf
    refine ⟨by decide, _, rfl, ?_⟩
    conv => whnf
    refine ⟨by omega, _, hrt i hi2, ?_⟩
    conv => whnf
    split <;> rename_i t3 <;> conv => whnf
    · have t3' : (((i + 1 : Nat) : Int) != ((i + 1 : Nat) : Int)) = true := t3
      rw [neq_self] at t3'; cases t3'
    exact ⟨i + 1, ⟨hi2, by omega⟩, ⟨rfl, rfl, rfl, congrArg Go.Rx.I wi, trivial⟩, ⟨_, rfl⟩, rfl, rfl⟩
  refine ⟨by decide, by decide, by rw [hkm]; decide, ?_⟩
  conv => whnf
  refine ⟨_, _, _, wk_refl _, cp3, .inr ?_⟩
  conv => whnf
  refine ⟨rfl, Int.le_refl _, by show (0 : Int) < 3; omega, ?_⟩
  conv => whnf
  refine ⟨rfl, ?_⟩
  conv => whnf
  refine ⟨rfl, rfl, _, rfl, ?_⟩
  conv => whnf
  refine ⟨rfl, by decide, by show (2 : Int) < 3; omega, ?_⟩
  conv => whnf
  refine ⟨rfl, ?_⟩
  conv => whnf
  refine ⟨rfl, rfl, _, rfl, ?_⟩
  conv => whnf
  refine ⟨by decide, ?_⟩
  conv => whnf
  refine ⟨rfl, ?_⟩
  conv => whnf
  refine callP coT ⟨.inl rfl, trivial⟩ (fun _ => rfl) ?_
  conv => whnf
  refine ⟨by decide, _, hrt 0 (by decide), ?_⟩
  conv => whnf
  refine callU (copyRec_con (keyR m (0 + 1)) (keyR_ok _ _)) (fun _ => rfl) ?_
  conv => whnf
  refine AW.cut (fun _ : Unit => True) (fun _ => [(12, Go.Rx.I 10), (15, Go.Rx.I 1)]) (fun _ => []) [] ?_ ?_
  · refine AW.draw T_ok rfl (.one 0 (.one 2 (.two 1 (listPl [3, 4, 5, 6, 7, 8, 9, 10]) 3 (listPl [1, 4, 5, 6, 7, 8, 9, 10])))) (by kernel_rfl) (by kernel_rfl) ?_
    conv => whnf
    refine ⟨?_, ?_⟩ <;> conv => whnf
    · refine ⟨_, _, _, wk_refl _, copyRecsO_con (keyL m 20) (by rw [hkl]; omega) (keyL_ok m 20), .inr ?_⟩
      conv => whnf
      refine ⟨rfl, _, .inl rfl, ?_⟩
      conv => whnf
      refine ⟨rfl, by show (20 + 1) * 80 ≤ _; omega, ?_⟩
      conv => whnf
      refine ⟨rfl, ?_⟩
      conv => whnf
      refine callP coM ⟨.inl rfl, trivial⟩ (fun _ => rfl) ?_
      conv => whnf
      exact ⟨(), trivial, ⟨rfl, rfl, trivial⟩, ⟨_, rfl⟩, rfl, rfl⟩
    · refine ⟨_, _, _, wk_refl _, copyRecsO_con (keyL m 20) (by rw [hkl]; omega) (keyL_ok m 20), .inr ?_⟩
      conv => whnf
      refine ⟨rfl, _, .inl rfl, ?_⟩
      conv => whnf
      refine ⟨rfl, by show (20 + 1) * 80 ≤ _; omega, ?_⟩
      conv => whnf
      refine ⟨rfl, ?_⟩
      conv => whnf
      refine callP coM ⟨.inl rfl, trivial⟩ (fun _ => rfl) ?_
      conv => whnf
      exact ⟨(), trivial, ⟨rfl, rfl, trivial⟩, ⟨_, rfl⟩, rfl, rfl⟩
  rintro _ _
  refine aw_of T_ok (by kernel_rfl) ?_
  conv => whnf
  refine callS (num_con 10 (by decide)) rfl ?_
  conv => whnf
  refine callS (num_con 1 (by decide)) rfl ?_
  conv => whnf
  refine callS wakes15_con rfl ?_
  conv => whnf
  exact finB ⟨rfl⟩
end Go.Proofs.Yteimnlmianfldaa.Rx

/- Sagas whose records stand among each other's: the law. -/
set_option linter.unusedVariables false
set_option linter.unusedSimpArgs false
namespace Go.Rx
def begT (id : Nat) : Rec := ⟨1, id, 0, ⟨#[UInt8.ofNat (97 + id)]⟩, ⟨#[98]⟩, [⟨⟨#[97]⟩, 1, ⟨#[99, 114, 101, 100, 105, 116]⟩, ⟨#[100, 101, 98, 105, 116]⟩, ⟨#[]⟩, 0⟩, ⟨⟨#[98]⟩, 3, ⟨#[99, 97, 110, 99, 101, 108]⟩, ⟨#[98, 111, 111, 107]⟩, ⟨#[]⟩, 0⟩]⟩
def begL (n : Nat) : List Rec := (List.range n).map fun i => begT (i + 1)
def zR (k n : Int) : Rec := ⟨k, 0, n, ⟨#[]⟩, ⟨#[]⟩, []⟩
def roadsT : List (List Rec) := [[zR 2 0, zR 3 0, zR 2 1, zR 3 1, zR 6 1], [zR 2 0, zR 4 0, zR 5 0, zR 6 2], [zR 2 0, zR 3 0, zR 2 1, zR 4 0, zR 6 3], [zR 2 0]]
def setId (r : Rec) (id : Nat) : Rec := ⟨r.kind, id, r.n, r.key, r.body, r.steps⟩
abbrev roadsV : PV := .sl 1 (roadsT.map fun l => [.sl 6 (l.map crdE)])
def roadAt (m id k : Nat) : List Rec := match ((roadsT[(id + m) % 4]?).getD [])[k]? with | some r => [setId r id] | none => []
def roadRow (m k n : Nat) : List Rec := (List.range n).flatMap fun i => roadAt m (i + 1) k
def roadAll (m k : Nat) : List Rec := (List.range k).flatMap fun j => roadRow m j 4
def roadLst (m : Nat) : List Rec := begL 4 ++ roadAll m 5
def ownP (id : Nat) (r : Rec) : Bool := r.id == id || (r.kind == 1 && decide (r.id < id))
theorem len_snoc {α : Type} (l : List α) (x : α) : (l ++ [x]).length = l.length + 1 := by simp
theorem filter_snoc {α : Type} {p : α → Bool} {l : List α} {i : Nat} (h : i < l.length) : (l.take (i + 1)).filter p = (l.take i).filter p ++ (if p l[i] then [l[i]] else []) := by
  rw [List.take_succ_eq_append_getElem h, List.filter_append]
  cases hp : p l[i] <;> simp [hp]
theorem begL_succ (n : Nat) : begL (n + 1) = begL n ++ [begT (n + 1)] := by rw [begL, List.range_succ, List.map_append]; rfl
theorem begL_len (n : Nat) : (begL n).length = n := by simp [begL]
theorem row_succ (m k n : Nat) : roadRow m k (n + 1) = roadRow m k n ++ roadAt m (n + 1) k := by rw [roadRow, List.range_succ, List.flatMap_append]; simp [roadRow]
theorem all_succ (m k : Nat) : roadAll m (k + 1) = roadAll m k ++ roadRow m k 4 := by rw [roadAll, List.range_succ, List.flatMap_append]; simp [roadAll]
theorem at_len (m id k : Nat) : (roadAt m id k).length ≤ 1 := by unfold roadAt; split <;> simp
theorem row_len (m k n : Nat) : (roadRow m k n).length ≤ n := by
  induction n with
  | zero => exact Nat.le_refl _
  | succ n ih => rw [row_succ, List.length_append]; have := at_len m (n + 1) k; omega
theorem all_len (m k : Nat) : (roadAll m k).length ≤ 4 * k := by
  induction k with
  | zero => exact Nat.le_refl _
  | succ k ih => rw [all_succ, List.length_append]; have := row_len m k 4; omega
theorem zR_all : ∀ l ∈ roadsT, ∀ r ∈ l, r.key = ⟨#[]⟩ ∧ r.body = ⟨#[]⟩ ∧ r.steps = [] := by
  intro l hl r hr
  simp only [roadsT, List.mem_cons, List.not_mem_nil, or_false] at hl
  rcases hl with rfl | rfl | rfl | rfl <;> simp only [List.mem_cons, List.not_mem_nil, or_false] at hr <;> (repeat' rcases hr with rfl | hr) <;> (try subst hr) <;> exact ⟨rfl, rfl, rfl⟩
theorem at_plain {m id k : Nat} {r : Rec} (h : r ∈ roadAt m id k) : r.key = ⟨#[]⟩ ∧ r.body = ⟨#[]⟩ ∧ r.steps = [] := by
  unfold roadAt at h
  split at h
  · rename_i x hx
    simp at h
    subst h
    have hm := List.mem_of_getElem? hx
    have hl : (id + m) % 4 < roadsT.length := by show _ < 4; omega
    rw [List.getElem?_eq_getElem hl, Option.getD_some] at hm
    exact zR_all _ (List.getElem_mem hl) x hm
  · cases h
theorem all_plain {m k : Nat} {r : Rec} (h : r ∈ roadAll m k) : r.key = ⟨#[]⟩ ∧ r.body = ⟨#[]⟩ ∧ r.steps = [] := by
  unfold roadAll roadRow at h
  simp only [List.mem_flatMap] at h
  obtain ⟨_, _, _, _, h⟩ := h
  exact at_plain h
theorem begT_ok (id : Nat) : (begT id).Ok := ⟨by show (1 : Nat) ≤ _; omega, by show (1 : Nat) ≤ _; omega, by show (2 : Nat) * 80 ≤ _; omega, by
  intro x hx
  simp only [begT, List.mem_cons, List.not_mem_nil, or_false] at hx
  rcases hx with rfl | rfl
  · exact ⟨by decide, by decide, by decide, by decide⟩
  · exact ⟨by decide, by decide, by decide, by decide⟩⟩
theorem lst_ok (m : Nat) : ∀ r ∈ roadLst m, r.Ok := fun r hr => by
  rw [roadLst, List.mem_append] at hr
  rcases hr with hr | hr
  · obtain ⟨i, _, rfl⟩ := List.mem_map.1 hr
    exact begT_ok _
  · obtain ⟨h1, h2, h3⟩ := all_plain hr
    exact ⟨by rw [h1]; decide, by rw [h2]; decide, by rw [h3]; decide, by rw [h3]; intro x hx; cases hx⟩
theorem lst_rows (m : Nat) : Fa (Fa WkP) ((begL 4).map Rec.enc ++ (roadAll m 5).map crdE) ((roadLst m).map Rec.enc) := by
  rw [roadLst, List.map_append]
  refine Fa.append (fa_refl (fa_refl wkPE) _) (fa_mem fun r hr => ?_)
  have h3 := (all_plain hr).2.2
  show Fa WkP (crdE r) [pI r.kind, pI r.id, pI r.n, pS r.key, pS r.body, encSteps r.steps]
  rw [h3]
  exact ⟨wkPE _, wkPE _, wkPE _, wkPE _, wkPE _, wkPN 6, trivial⟩
theorem lst_len (m : Nat) : (roadLst m).length ≤ 24 := by rw [roadLst, List.length_append, begL_len]; have := all_len m 5; omega
def roadChk (m : Nat) : Bool :=
  (roadLst m).all recB && (match foldL [] (roadLst m) with
    | some x => (List.range 4).all fun i => let o := (roadLst m).filter (ownP (i + 1)); o.all recB && (match foldL [] o with
      | some y => decide (y.length = i + 1) && (match x[i]?, y[i]? with | some a, some b => decide (a = b) | _, _ => false)
      | none => false)
    | none => false)
theorem roadChk_all : ((List.range 4).all roadChk) = true := by kernel_rfl
structure RoadsGo (m : Nat) (x : List Saga) : Prop where
  all : (roadLst m).all recB = true
  fold : foldL [] (roadLst m) = some x
  each : ∀ i, i < 4 → ∃ (y : List Saga) (s : Saga), ofP ((roadLst m).filter (ownP (i + 1))) = (y, 0) ∧ y.length = i + 1 ∧ x[i]? = some s ∧ y[i]? = some s
theorem road_of {m : Nat} (h : m < 4) : ∃ x, RoadsGo m x := by
  have h1 := List.all_eq_true.1 roadChk_all m (List.mem_range.2 h)
  unfold roadChk at h1
  rw [Bool.and_eq_true] at h1
  obtain ⟨ha, h1⟩ := h1
  split at h1
  · rename_i x hx
    refine ⟨x, ha, hx, fun i hi => ?_⟩
    have h2 := List.all_eq_true.1 h1 i (List.mem_range.2 hi)
    simp only [Bool.and_eq_true] at h2
    obtain ⟨hb, h2⟩ := h2
    split at h2
    · rename_i y hy
      rw [Bool.and_eq_true] at h2
      obtain ⟨hl, h2⟩ := h2
      split at h2
      · rename_i a b hxa hyb
        have := of_decide_eq_true h2
        subst this
        exact ⟨y, a, by rw [ofP, if_pos hb, hy], of_decide_eq_true hl, hxa, hyb⟩
      · cases h2
    · cases h2
  · cases h1
end Go.Rx
namespace Go.Proofs.Yteimnlmianfldaa.Rx
open Go.Rx Go.Proofs Go.Proofs.Yteimnlmianfldaa.RxH

set_option maxHeartbeats 1000000 in
set_option maxRecDepth 100000 in
theorem replayRoads_con (R : List Rec) (S : List ByteArray) (N : List Int) (G : List Saga) (L : List (List Rec)) (h : AskOk R S N G) (hL : RowsOk L) : Con P 4 [encAsk15 R S N G L] (Bl true) [] := by
  have hGl := h.hG
  have hGm : (G.map Saga.enc).length = G.length := List.length_map ..
  obtain ⟨m, hmm⟩ : ∃ m : Nat, m = G.length % 4 := ⟨_, rfl⟩
  have hm4 : m < 4 := by omega
  obtain ⟨x, hgo⟩ := road_of hm4
  refine Con.of T_ok Try.func4 rfl (by kernel_rfl) (by kernel_rfl) (aw_ofC T_ok 2018 (by kernel_rfl) ?_)
  conv => whnf
  refine AW.loop (fun n : Nat => n ≤ 4) (fun n => [(1, .lf (.ptr 0 0)), (3, .lf (.own 1 n)), (4, Go.Rx.I ((n + 1 : Nat) : Int))]) (fun n => [ask15V R S N G L, .arr 39 6 ((begL n).map Rec.enc)]) (fun n => 4 - n) [.slot 3 39 6] ?_ ?_
  · exact ⟨rfl, 0, Nat.zero_le _, ⟨rfl, rfl, rfl, trivial⟩, ⟨[], rfl⟩, rfl, rfl⟩
  rintro n hn
  have hnl : ((begL n).map Rec.enc).length = n := by rw [List.length_map, begL_len]
  refine aw_of T_ok (by kernel_rfl) ?_
  conv => whnf
  split <;> rename_i hlt <;> conv => whnf
  · have hn2 : n < 4 := by have : ((n + 1 : Nat) : Int) ≤ 4 := of_decide_eq_true hlt
                           omega
    refine ⟨rfl, ⟨#[UInt8.ofNat (97 + (n + 1))]⟩, ?_, ?_⟩
    · show [[PV.sc (.int .u8 (IntKind.u8.wrap (IntKind.i64.wrap (97 + ((n + 1 : Nat) : Int)))))]] = [[PV.sc (.int .u8 ((UInt8.ofNat (97 + (n + 1))).toNat : Int))]]
      rw [wrapI (n := 97 + ((n + 1 : Nat) : Int)) (by omega), ← byteW (show 97 + (n + 1) < 256 by omega)]
      rfl
    conv => whnf
    refine ⟨rfl, ?_⟩
    conv => whnf
    refine ⟨rfl, _, .inl rfl, ?_⟩
    conv => whnf
    refine ⟨hnl, by show (n + 1) * 80 ≤ _; omega, ?_⟩
    conv => whnf
    refine ⟨n + 1, ⟨hn2, by omega⟩, ⟨rfl, rfl, congrArg Go.Rx.I (show IntKind.i64.wrap (((n + 1 : Nat) : Int) + 1) = (((n + 1) + 1 : Nat) : Int) by rw [wrapI (by omega)]; omega), trivial⟩, ⟨[?r1, ?r2, ?r3], ?e⟩, rfl, rfl⟩
    case e =>
      show _ = [_, Blk.arr _ _ ((begL (n + 1)).map Rec.enc)] ++ [_, _, _]
      rw [begL_succ, List.map_append]; rfl
  have hn4 : n = 4 := by have : ¬ (((n + 1 : Nat) : Int) ≤ 4) := of_decide_eq_false hlt
                         omega
  refine ⟨rfl, ?_⟩
  conv => whnf
  refine ⟨rfl, ?_⟩
  conv => whnf
  refine ⟨rfl, ?_⟩
  conv => whnf
  refine ⟨rfl, ?_⟩
  conv => whnf
  refine AW.loop (fun k : Nat => k ≤ 5) (fun k => [(1, .lf (.ptr 0 0)), (3, .lf (.own 1 (4 + (roadAll m k).length))), (5, .lf (.pv roadsV)), (6, Go.Rx.I k)]) (fun k => [ask15V R S N G L, .arr 39 6 ((begL 4).map Rec.enc ++ (roadAll m k).map crdE)]) (fun k => 5 - k) [.frz 5] ?_ ?_
  · refine ⟨rfl, ?_⟩
    conv => whnf
    have e0 : (begL n).map Rec.enc = (begL 4).map Rec.enc ++ (roadAll m 0).map crdE := by rw [hn4]; exact (List.append_nil _).symm
    exact ⟨0, by omega, ⟨rfl, congrArg (fun n => AV.lf (.own 1 n)) hn4, rfl, rfl, trivial⟩, ⟨[_, _, _, _, _], congrArg (fun r => [ask15V R S N G L, Blk.arr 39 6 r] ++ [_, _, _, _, _]) e0⟩, rfl, rfl⟩
  rintro k hk
  have wk : IntKind.i64.wrap ((k : Int) + 1) = ((k + 1 : Nat) : Int) := wrapI (by omega)
  have hbl : ((begL 4).map Rec.enc).length = 4 := by rw [List.length_map, begL_len]
  have hal := all_len m k
  refine aw_of T_ok (by kernel_rfl) ?_
  conv => whnf
  split <;> rename_i hk5 <;> conv => whnf
  · have hk2 : k < 5 := by have : (k : Int) < 5 := of_decide_eq_true hk5
                           omega
    refine AW.loop (fun j : Nat => j ≤ 4) (fun j => [(1, .lf (.ptr 0 0)), (3, .lf (.own 1 (4 + (roadAll m k ++ roadRow m k j).length))), (5, .lf (.pv roadsV)), (6, Go.Rx.I k), (7, Go.Rx.I ((j + 1 : Nat) : Int))]) (fun j => [ask15V R S N G L, .arr 39 6 ((begL 4).map Rec.enc ++ (roadAll m k ++ roadRow m k j).map crdE)]) (fun j => 4 - j) [] ?_ ?_
    · have e0 : roadAll m k = roadAll m k ++ roadRow m k 0 := (List.append_nil _).symm
      exact ⟨0, by omega, ⟨rfl, congrArg (fun l : List Rec => AV.lf (.own 1 (4 + l.length))) e0, rfl, rfl, rfl, trivial⟩, ⟨[], congrArg (fun l : List Rec => [ask15V R S N G L, Blk.arr 39 6 ((begL 4).map Rec.enc ++ l.map crdE)]) e0⟩, rfl, rfl⟩
    rintro j hj
    have wj : IntKind.i64.wrap (((j + 1 : Nat) : Int) + 1) = (((j + 1) + 1 : Nat) : Int) := by rw [wrapI (by omega)]; omega
    have hrl := row_len m k j
    have hlen : ((begL 4).map Rec.enc ++ (roadAll m k ++ roadRow m k j).map crdE).length = 4 + (roadAll m k ++ roadRow m k j).length := by rw [List.length_append, hbl, List.length_map]
    have hle : (roadAll m k ++ roadRow m k j).length ≤ 24 := by rw [List.length_append]; omega
    refine aw_of T_ok (by kernel_rfl) ?_
    conv => whnf
    split <;> rename_i hj4 <;> conv => whnf
    · have hj2 : j < 4 := by have : ((j + 1 : Nat) : Int) ≤ 4 := of_decide_eq_true hj4
                             omega
      have ww : IntKind.i64.wrap (((j + 1 : Nat) : Int) + ((G.map Saga.enc).length : Nat)) = ((j + 1 + G.length : Nat) : Int) := by rw [hGm, wrapI (by omega)]; omega
      have hat : IntKind.i64.wrap (((j + 1 : Nat) : Int) + ((G.map Saga.enc).length : Nat)) % 4 = (((j + 1 + m) % 4 : Nat) : Int) := by rw [ww]; omega
      refine .inl ⟨by rw [ww]; omega, by decide, by rw [ww]; omega, ?_⟩
      conv => whnf
      have hal4 : (j + 1 + m) % 4 < roadsT.length := by show _ < 4; omega
      have hrow : (roadsT.map fun l => [PV.sl 6 (l.map crdE)])[(IntKind.i64.wrap (((j + 1 : Nat) : Int) + ((G.map Saga.enc).length : Nat)) % 4).toNat]? = some [.sl 6 ((roadsT[(j + 1 + m) % 4]).map crdE)] := by rw [hat, Int.toNat_natCast, List.getElem?_map, List.getElem?_eq_getElem hal4]; rfl
      have hat2 : roadAt m (j + 1) k = match (roadsT[(j + 1 + m) % 4])[k]? with | some r => [setId r (j + 1)] | none => [] := by
        unfold roadAt
        rw [List.getElem?_eq_getElem hal4, Option.getD_some]
      generalize roadsT[(j + 1 + m) % 4] = q at hrow hat2
      have hqm : (q.map crdE).length = q.length := List.length_map ..
      have hix : 0 ≤ IntKind.i64.wrap (((j + 1 : Nat) : Int) + ((G.map Saga.enc).length : Nat)) % 4 := by rw [hat]; omega
      refine ⟨hix, _, hrow, ?_⟩
      conv => whnf
      split <;> rename_i hkq <;> conv => whnf
      · have hkq2 : k < q.length := by have : (k : Int) < ((q.map crdE).length : Nat) := of_decide_eq_true hkq
                                       omega
        have hrow2 : (q.map crdE)[k]? = some (crdE q[k]) := by simp [hkq2]
        rw [List.getElem?_eq_getElem hkq2] at hat2
        generalize q[k] = r at hrow2 hat2
        refine ⟨hix, _, hrow, ?_⟩
        conv => whnf
        refine ⟨by omega, _, hrow2, ?_⟩
        conv => whnf
        refine ⟨rfl, _, .inl rfl, ?_⟩
        conv => whnf
        refine ⟨hlen, by show (4 + (roadAll m k ++ roadRow m k j).length + 1) * 80 ≤ _; omega, ?_⟩
        conv => whnf
        have es : roadAll m k ++ roadRow m k (j + 1) = (roadAll m k ++ roadRow m k j) ++ [setId r (j + 1)] := by rw [row_succ, hat2, List.append_assoc]
        refine ⟨j + 1, ⟨hj2, by omega⟩, ⟨rfl, ?ea, rfl, rfl, congrArg Go.Rx.I wj, trivial⟩, ⟨[?r5, ?r6], ?eb⟩, rfl, rfl⟩
        case ea => exact congrArg (fun n => AV.lf (.own 1 n)) (show 4 + (roadAll m k ++ roadRow m k j).length + 1 = 4 + (roadAll m k ++ roadRow m k (j + 1)).length by rw [es, len_snoc, Nat.add_assoc])
        case eb =>
          have em : (begL 4).map Rec.enc ++ (roadAll m k ++ roadRow m k j).map crdE ++ [crdE (setId r (j + 1))] = (begL 4).map Rec.enc ++ (roadAll m k ++ roadRow m k (j + 1)).map crdE := by
            rw [es, List.map_append (l₁ := roadAll m k ++ roadRow m k j), List.append_assoc]; rfl
          exact congrArg (fun r => [ask15V R S N G L, Blk.arr 39 6 r] ++ [_, _]) em
      · have hkq2 : q.length ≤ k := by have : ¬ ((k : Int) < ((q.map crdE).length : Nat)) := of_decide_eq_false hkq
                                       omega
        rw [List.getElem?_eq_none hkq2] at hat2
        have es : roadAll m k ++ roadRow m k (j + 1) = roadAll m k ++ roadRow m k j := by rw [row_succ, hat2]; simp
        exact ⟨j + 1, ⟨hj2, by omega⟩, ⟨rfl, congrArg (fun l : List Rec => AV.lf (.own 1 (4 + l.length))) es.symm, rfl, rfl, congrArg Go.Rx.I wj, trivial⟩, ⟨[], congrArg (fun l : List Rec => [ask15V R S N G L, Blk.arr 39 6 ((begL 4).map Rec.enc ++ l.map crdE)]) es.symm⟩, rfl, rfl⟩
    · have hj2 : j = 4 := by have : ¬ (((j + 1 : Nat) : Int) ≤ 4) := of_decide_eq_false hj4
                             omega
      subst hj2
      exact ⟨k + 1, ⟨hk2, by omega⟩, ⟨rfl, congrArg (fun l : List Rec => AV.lf (.own 1 (4 + l.length))) (all_succ m k).symm, rfl, congrArg Go.Rx.I wk, trivial⟩, ⟨[], congrArg (fun l : List Rec => [ask15V R S N G L, Blk.arr 39 6 ((begL 4).map Rec.enc ++ l.map crdE)]) (all_succ m k).symm⟩, rfl, rfl⟩
  have hk2 : k = 5 := by have : ¬ ((k : Int) < 5) := of_decide_eq_false hk5
                         omega
  have hlm : ((begL 4).map Rec.enc ++ (roadAll m 5).map crdE).length = 4 + (roadAll m 5).length := by rw [List.length_append, hbl, List.length_map]
  refine AW.meet (fun _ : Unit => True) (fun _ => [(1, .lf (.ptr 0 0)), (3, .lf (.pv (.sl 6 ((begL 4).map Rec.enc ++ (roadAll m 5).map crdE))))]) (fun _ => [ask15V R S N G L]) [.frz 3] ?_ ?_
  · refine ⟨by rw [hk2]; exact hlm, ?_⟩
    conv => whnf
    exact ⟨(), trivial, ⟨rfl, congrArg (fun k => AV.lf (.pv (.sl 6 ((begL 4).map Rec.enc ++ (roadAll m k).map crdE)))) hk2, trivial⟩, ⟨_, rfl⟩, rfl, rfl⟩
  rintro _ _
  refine AW.wk [(1, .lf (.ptr 0 0)), (3, .lf (.pv (encRecs (roadLst m))))] ⟨.inl rfl, .inr (.inl ⟨_, _, rfl, rfl, wkR (lst_rows m)⟩), trivial⟩ ?_
  have hll := lst_len m
  have hlk := lst_ok m
  obtain ⟨hall, hfold, heach⟩ := hgo
  have hsx : Sgs x := sgs_fold sgs_nil (fun r hr => List.all_eq_true.1 hall r hr) hlk hfold
  have co := of_con (roadLst m) (by omega) hlk
  rw [ofP, if_pos hall, hfold] at co
  have cf := fold9_con (roadLst m) (by omega) hlk hall
  rw [foldP, hfold] at cf
  simp only at co cf
  have cq := eqSagas_con x x (sg_small hsx) (fun s hs => by
    obtain ⟨j, hj, rfl⟩ := List.mem_iff_getElem.1 hs
    exact (hsx.sg j _ (List.getElem?_eq_getElem hj)).ok.steps.len)
  rw [decide_eq_true rfl] at cq
  generalize roadLst m = l at hll hlk co cf heach
  clear hfold hall
  have hlm2 : (l.map Rec.enc).length = l.length := List.length_map ..
  refine aw_of T_ok (by kernel_rfl) ?_
  conv => whnf
  refine callU co (fun _ => rfl) ?_
  conv => whnf
  refine callU cf (fun _ => rfl) ?_
  conv => whnf
  refine callS (num_con 0 (by decide)) rfl ?_
  conv => whnf
  refine callS cq rfl ?_
  conv => whnf
  refine AW.loop (fun d : Nat => d ≤ 4) (fun d => [(3, .lf (.pv (encRecs l))), (10, .lf (.pv (encSagas x))), (14, Go.Rx.I ((d + 1 : Nat) : Int))]) (fun _ => []) (fun d => 4 - d) [] ?_ ?_
  · exact ⟨0, by omega, ⟨rfl, rfl, rfl, trivial⟩, ⟨_, rfl⟩, rfl, rfl⟩
  rintro d hd
  have wd : IntKind.i64.wrap (((d + 1 : Nat) : Int) + 1) = (((d + 1) + 1 : Nat) : Int) := by rw [wrapI (by omega)]; omega
  refine aw_of T_ok (by kernel_rfl) ?_
  conv => whnf
  split <;> rename_i hd4 <;> conv => whnf
  rotate_left
  · refine callS wakes15_con rfl ?_
    conv => whnf
    exact finB ⟨rfl⟩
  have hd2 : d < 4 := by have : ((d + 1 : Nat) : Int) ≤ 4 := of_decide_eq_true hd4
                         omega
  obtain ⟨y, s, hy, hyl, hxs, hys⟩ := heach d hd2
  refine AW.loop (fun i : Nat => i ≤ l.length) (fun i => [(3, .lf (.pv (encRecs l))), (10, .lf (.pv (encSagas x))), (14, Go.Rx.I ((d + 1 : Nat) : Int)), (15, .lf (.own 0 ((l.take i).filter (ownP (d + 1))).length)), (16, Go.Rx.I i)]) (fun i => [.arr 39 6 (((l.take i).filter (ownP (d + 1))).map Rec.enc)]) (fun i => l.length - i) [.slot 15 39 6] ?_ ?_
  · exact ⟨rfl, 0, by omega, ⟨rfl, rfl, rfl, rfl, rfl, trivial⟩, ⟨_, rfl⟩, rfl, rfl⟩
  rintro i hi
  have wi : IntKind.i64.wrap ((i : Int) + 1) = ((i + 1 : Nat) : Int) := wrapI (by omega)
  have hfm : (((l.take i).filter (ownP (d + 1))).map Rec.enc).length = ((l.take i).filter (ownP (d + 1))).length := List.length_map ..
  have hfl : ((l.take i).filter (ownP (d + 1))).length ≤ 24 := by have := List.length_filter_le (ownP (d + 1)) (l.take i); rw [List.length_take] at this; omega
  refine aw_of T_ok (by kernel_rfl) ?_
  conv => whnf
  split <;> rename_i hil <;> conv => whnf
  · have hi2 : i < l.length := by have : (i : Int) < ((l.map Rec.enc).length : Nat) := of_decide_eq_true hil
                                  omega
    have hrow : (l.map Rec.enc)[i]? = some (l[i]).enc := by simp [hi2]
    have hs := filter_snoc (p := ownP (d + 1)) hi2
    generalize l[i] = r at hrow hs
    have yes : ownP (d + 1) r = true → (l.take (i + 1)).filter (ownP (d + 1)) = (l.take i).filter (ownP (d + 1)) ++ [r] := fun e => by rw [hs, if_pos e]
    have no : ownP (d + 1) r = false → (l.take (i + 1)).filter (ownP (d + 1)) = (l.take i).filter (ownP (d + 1)) := fun e => by rw [hs, if_neg (by rw [e]; decide), List.append_nil]
    clear hs
    refine ⟨by omega, r.enc, hrow, ?_⟩
    conv => whnf
    split <;> rename_i h1 <;> conv => whnf
    · have hp : ownP (d + 1) r = true := by rw [ownP, show (r.id == ((d + 1 : Nat) : Int)) = true from h1]; rfl
      refine ⟨by omega, r.enc, hrow, ?_⟩
      conv => whnf
      refine ⟨rfl, _, .inl rfl, ?_⟩
      conv => whnf
      refine ⟨hfm, by show (((l.take i).filter (ownP (d + 1))).length + 1) * 80 ≤ _; omega, ?_⟩
      conv => whnf
      have em : ((l.take i).filter (ownP (d + 1))).map Rec.enc ++ [r.enc] = ((l.take (i + 1)).filter (ownP (d + 1))).map Rec.enc := by rw [yes hp, List.map_append]; rfl
      have el : ((l.take i).filter (ownP (d + 1))).length + 1 = ((l.take (i + 1)).filter (ownP (d + 1))).length := by rw [yes hp, len_snoc]
      exact ⟨i + 1, ⟨hi2, by omega⟩, ⟨rfl, rfl, rfl, congrArg (fun n => AV.lf (.own 0 n)) el, congrArg Go.Rx.I wi, trivial⟩, ⟨[_], congrArg (fun r => [Blk.arr 39 6 r] ++ [_]) em⟩, rfl, rfl⟩
    refine ⟨by omega, r.enc, hrow, ?_⟩
    conv => whnf
    split <;> rename_i h2 <;> conv => whnf
    · refine ⟨by omega, r.enc, hrow, ?_⟩
      conv => whnf
      split <;> rename_i h3 <;> conv => whnf
      · have hp : ownP (d + 1) r = true := by rw [ownP, show (r.kind == 1) = true from h2, show decide (r.id < ((d + 1 : Nat) : Int)) = true from h3]; simp
        refine ⟨by omega, r.enc, hrow, ?_⟩
        conv => whnf
        refine ⟨rfl, _, .inl rfl, ?_⟩
        conv => whnf
        refine ⟨hfm, by show (((l.take i).filter (ownP (d + 1))).length + 1) * 80 ≤ _; omega, ?_⟩
        conv => whnf
        have em : ((l.take i).filter (ownP (d + 1))).map Rec.enc ++ [r.enc] = ((l.take (i + 1)).filter (ownP (d + 1))).map Rec.enc := by rw [yes hp, List.map_append]; rfl
        have el : ((l.take i).filter (ownP (d + 1))).length + 1 = ((l.take (i + 1)).filter (ownP (d + 1))).length := by rw [yes hp, len_snoc]
        exact ⟨i + 1, ⟨hi2, by omega⟩, ⟨rfl, rfl, rfl, congrArg (fun n => AV.lf (.own 0 n)) el, congrArg Go.Rx.I wi, trivial⟩, ⟨[_], congrArg (fun r => [Blk.arr 39 6 r] ++ [_]) em⟩, rfl, rfl⟩
      · have hp : ownP (d + 1) r = false := by rw [ownP, show (r.id == ((d + 1 : Nat) : Int)) = false from h1, show decide (r.id < ((d + 1 : Nat) : Int)) = false from h3]; simp
        exact ⟨i + 1, ⟨hi2, by omega⟩, ⟨rfl, rfl, rfl, congrArg (fun l : List Rec => AV.lf (.own 0 l.length)) (no hp).symm, congrArg Go.Rx.I wi, trivial⟩, ⟨[], congrArg (fun l : List Rec => [Blk.arr 39 6 (l.map Rec.enc)]) (no hp).symm⟩, rfl, rfl⟩
    · have hp : ownP (d + 1) r = false := by rw [ownP, show (r.id == ((d + 1 : Nat) : Int)) = false from h1, show (r.kind == 1) = false from h2]; rfl
      exact ⟨i + 1, ⟨hi2, by omega⟩, ⟨rfl, rfl, rfl, congrArg (fun l : List Rec => AV.lf (.own 0 l.length)) (no hp).symm, congrArg Go.Rx.I wi, trivial⟩, ⟨[], congrArg (fun l : List Rec => [Blk.arr 39 6 (l.map Rec.enc)]) (no hp).symm⟩, rfl, rfl⟩
  have hi3 : i = l.length := by have : ¬ ((i : Int) < ((l.map Rec.enc).length : Nat)) := of_decide_eq_false hil
                                omega
  have hft : (l.take i).filter (ownP (d + 1)) = l.filter (ownP (d + 1)) := by rw [hi3, List.take_length]
  have cw := of_con ((l.take i).filter (ownP (d + 1))) (by omega) (fun r hr => hlk r (by rw [hft] at hr; exact (List.mem_filter.1 hr).1))
  rw [show ofP ((l.take i).filter (ownP (d + 1))) = (y, 0) by rw [hft]; exact hy] at cw
  have hss : s.steps.length * 80 ≤ 140737488351232 := (hsx.sg d s hxs).ok.steps.len
  have hym : (y.map Saga.enc).length = d + 1 := by rw [List.length_map, hyl]
  have w1 : IntKind.i64.wrap (((d + 1 : Nat) : Int) - 1) = (d : Int) := by rw [wrapI (by omega)]; omega
  have r1 : (y.map Saga.enc)[(IntKind.i64.wrap (((d + 1 : Nat) : Int) - 1)).toNat]? = some s.enc := by rw [w1, Int.toNat_natCast, List.getElem?_map, hys]; rfl
  have r2 : (x.map Saga.enc)[(IntKind.i64.wrap (((d + 1 : Nat) : Int) - 1)).toNat]? = some s.enc := by rw [w1, Int.toNat_natCast, List.getElem?_map, hxs]; rfl
  have hix : 0 ≤ IntKind.i64.wrap (((d + 1 : Nat) : Int) - 1) := by rw [w1]; omega
  have cs := eqSaga_con s s hss
  rw [decide_eq_true rfl] at cs
  refine ⟨hfm, ?_⟩
  conv => whnf
  refine callU cw (fun _ => rfl) ?_
  conv => whnf
  refine AW.draw T_ok rfl (seqPl 0 23) (by kernel_rfl) (by kernel_rfl) ?_
  conv => whnf
  refine callS (num_con 0 (by decide)) rfl ?_
  conv => whnf
  split <;> rename_i t1 <;> conv => whnf
  · have t1' : (((y.map Saga.enc).length : Int) != ((d + 1 : Nat) : Int)) = true := t1
    rw [hym, neq_self] at t1'; cases t1'
  refine ⟨hix, s.enc, r1, ?_⟩
  conv => whnf
  refine ⟨hix, s.enc, r2, ?_⟩
  conv => whnf
  refine callS cs rfl ?_
  conv => whnf
  exact ⟨d + 1, ⟨hd2, by omega⟩, ⟨rfl, rfl, congrArg Go.Rx.I wd, trivial⟩, ⟨_, rfl⟩, rfl, rfl⟩
end Go.Proofs.Yteimnlmianfldaa.Rx
