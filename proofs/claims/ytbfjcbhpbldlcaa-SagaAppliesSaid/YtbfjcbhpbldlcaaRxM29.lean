/- What a record makes of a saga: it ends. -/
import Derived.Test.YtbfjcbhpbldlcaaRxM28
set_option linter.unusedVariables false
set_option linter.unusedSimpArgs false
namespace Go.Rx
structure Parts (s : Saga) : Prop where
  rc : recB (begR s) = true
  d0 : 0 ≤ s.done
  d1 : s.done ≤ s.steps.length
  ou : s.out = true → ¬ s.done = s.steps.length
  l0 : 0 ≤ s.left
  l1 : s.left ≤ mostI s
  bk : s.back = false → s.left = 0
  en : endsB s s.status = true
theorem parts_iff {s : Saga} : sagaB s = true ↔ Parts s := by
  constructor
  · intro h
    simp only [sagaB, Bool.and_eq_true, decide_eq_true_eq, Bool.not_eq_true', Bool.and_eq_false_iff, bne_eq_false_iff_eq, beq_eq_false_iff_ne, Bool.not_eq_false'] at h
    obtain ⟨h1, h2, h3, h4, h5, h6, h7, h8⟩ := h
    refine ⟨h1, h2, h3, fun e => ?_, h5, h6, fun e => ?_, h8⟩
    · rcases h4 with h4 | h4
      · rw [e] at h4; cases h4
      · exact h4
    · rcases h7 with h7 | h7
      · rw [e] at h7; cases h7
      · exact h7
  · intro h
    simp only [sagaB, Bool.and_eq_true, decide_eq_true_eq, Bool.not_eq_true', Bool.and_eq_false_iff, bne_eq_false_iff_eq, beq_eq_false_iff_ne, Bool.not_eq_false']
    refine ⟨h.rc, h.d0, h.d1, ?_, h.l0, h.l1, ?_, h.en⟩
    · cases ho : s.out
      · exact .inl rfl
      · exact .inr (h.ou ho)
    · cases hb : s.back
      · exact .inr (h.bk hb)
      · exact .inl rfl
theorem parts_len {s : Saga} (h : Parts s) : 1 ≤ s.steps.length ∧ s.steps.length ≤ 5 ∧ 1 ≤ s.id ∧ s.id ≤ 20 := by
  have h1 := h.rc
  rw [recB, Bool.and_eq_true, if_pos rfl, begB] at h1
  simp only [Bool.and_eq_true, decide_eq_true_eq] at h1
  obtain ⟨⟨h2, h3⟩, _, _, _, _, _, h4⟩ := h1
  rw [stepsB] at h4
  simp only [Bool.and_eq_true, decide_eq_true_eq] at h4
  exact ⟨h4.2.1, h4.2.2, h2, h3⟩
def needN (s : Saga) : Int := if s.back then s.left + 1 else if s.out then 2 * (s.steps.length - s.done) + s.steps.length + 1 else 2 * (s.steps.length - s.done) + s.steps.length + 2
theorem most_le {s : Saga} (h : Parts s) : mostI s ≤ 6 := by
  have := parts_len h
  have := h.d1
  unfold mostI; split <;> omega
theorem room_eq {s : Saga} (h : Parts s) : roomI s = if s.status = 0 then 24 * needN s else 0 := by
  have hl := parts_len h
  have h0 := h.d0
  have h1 := h.d1
  have h2 := h.l0
  have h3 := h.l1
  have h4 := most_le h
  unfold roomI
  split
  · unfold needN nI
    rw [wrapI (n := (s.steps.length : Int) - s.done) (by omega), wrapI (n := 2 * ((s.steps.length : Int) - s.done)) (by omega), wrapI (n := 2 * ((s.steps.length : Int) - s.done) + s.steps.length) (by omega), wrapI (n := 2 * ((s.steps.length : Int) - s.done) + s.steps.length + 2) (by omega)]
    split
    · rw [wrapI (n := s.left + 1) (by omega), wrapI (by omega)]
    split
    · rw [wrapI (n := 2 * ((s.steps.length : Int) - s.done) + s.steps.length + 2 - 1) (by omega), wrapI (by omega)]; omega
    · rw [wrapI (by omega)]
  · rfl
theorem need_low {s : Saga} (h : Parts s) : 1 ≤ needN s ∧ needN s ≤ 17 := by
  have hl := parts_len h
  have h0 := h.d0
  have h1 := h.d1
  have h2 := h.l0
  have h3 := h.l1
  have h4 := most_le h
  unfold needN; repeat' split
  all_goals omega
/-- A record that applies: it may be, it is the saga's, the saga goes on, it fits. -/
theorem apply_went {s : Saga} {r : Rec} (hs : sagaB s = true) (he : (applyS s r).2 = 0) : recB r = true ∧ r.id = s.id ∧ s.status = 0 ∧ fitsB s r = true ∧ (applyS s r).1 = nextS s r := by
  unfold applyS at he ⊢
  split at he
  · cases he
  rename_i h1
  split at he
  · cases he
  rename_i h2
  split at he
  · rename_i h3
    rw [if_neg h1, if_neg h2, if_pos h3]
    simp only [Bool.and_eq_true, beq_iff_eq] at h3
    simp only [Bool.or_eq_true, Bool.not_eq_true', not_or, Bool.not_eq_false] at h1
    exact ⟨h1.2, h3.1, h3.2.1, h3.2.2, rfl⟩
  · cases he
theorem apply_goes {s : Saga} {r : Rec} (hs : sagaB s = true) (h1 : recB r = true) (h2 : r.id = s.id) (h3 : s.status = 0) (h4 : fitsB s r = true) : (applyS s r).2 = 0 := by
  unfold applyS
  rw [if_neg (by rw [hs, h1]; decide), if_neg (by rw [h2]; simp), if_pos (by rw [h2, h3, h4]; simp)]
structure Good (s x : Saga) : Prop where
  may : sagaB x = true
  room : roomI x ≤ roomI s - 24
  st : s.status = 0
  d0 : s.done ≤ x.done
  d1 : x.done ≤ s.done + 1
  bk : s.back = true → x.back = true
  lf : s.back = true → x.left ≤ s.left
theorem good_of {s x : Saga} (hp : Parts s) (hst : s.status = 0) (hx : Parts x) (hn : x.status = 0 → needN x + 1 ≤ needN s) (h1 : s.done ≤ x.done) (h2 : x.done ≤ s.done + 1) (h3 : s.back = true → x.back = true) (h4 : s.back = true → x.left ≤ s.left) : Good s x := by
  refine ⟨parts_iff.2 hx, ?_, hst, h1, h2, h3, h4⟩
  rw [room_eq hp, room_eq hx, if_pos hst]
  have := (need_low hp).1
  split
  · rename_i e; have := hn e; omega
  · omega
theorem kind_n {r : Rec} (h : recB r = true) (k : r.kind = 2 ∨ r.kind = 3 ∨ r.kind = 5) : 0 ≤ r.n ∧ r.n < 5 := by
  rw [recB, Bool.and_eq_true] at h
  have h2 := h.2
  rw [if_neg (by omega), Bool.and_eq_true] at h2
  have h3 := h2.2
  rw [kindB, if_pos k] at h3
  simpa using h3
theorem apply_good {s : Saga} {r : Rec} (hs : sagaB s = true) (he : (applyS s r).2 = 0) : Good s (applyS s r).1 := by
  obtain ⟨hr, hid, hst, hf, hx⟩ := apply_went hs he
  rw [hx]
  have hp := parts_iff.1 hs
  have hl := parts_len hp
  have hml := most_le hp
  have p0 := hp.d0
  have p1 := hp.d1
  have p2 := hp.l0
  have p3 := hp.l1
  have p4 := hp.ou
  have p5 := hp.bk
  have p6 := hp.en
  have p7 := hp.rc
  obtain ⟨id, key, body, steps, done, out, back, left, status⟩ := s
  simp only at hst hid hl p0 p1 p2 p3 p4 p5
  subst hst
  unfold fitsB at hf
  split at hf
  · rename_i hk
    simp only [Bool.and_eq_true, Bool.not_eq_true', beq_iff_eq, decide_eq_true_eq] at hf
    obtain ⟨rfl, rfl, hn, hlt⟩ := hf
    have hl0 := p5 rfl
    rw [nextS, if_pos hk]
    exact good_of hp rfl ⟨p7, p0, p1, fun _ => by simp only; omega, p2, by simp only [mostI, if_true]; omega, fun _ => hl0, rfl⟩ (fun _ => by simp [needN]; omega) (by simp only; omega) (by simp only; omega) (fun e => e) (fun e => by cases e)
  split at hf
  · rename_i hk2 hk
    simp only [Bool.and_eq_true, Bool.not_eq_true', beq_iff_eq] at hf
    obtain ⟨rfl, rfl, hn⟩ := hf
    have hl0 := p5 rfl
    have hne := p4 rfl
    rw [nextS, if_neg hk2, if_pos hk]
    dsimp only
    rw [wrapI (n := done + 1) (by omega)]
    exact good_of hp rfl ⟨p7, by simp only; omega, by simp only; omega, fun e => (by cases e), p2, by simp only [mostI]; simp; omega, fun _ => hl0, rfl⟩ (fun _ => by simp [needN]; omega) (by simp only; omega) (by simp only; omega) (fun e => e) (fun e => by cases e)
  split at hf
  · rename_i hk2 hk3 hk
    simp only [Bool.and_eq_true, Bool.not_eq_true'] at hf
    obtain ⟨rfl, rfl⟩ := hf
    have hne := p4 rfl
    rw [nextS, if_neg hk2, if_neg hk3, if_pos hk]
    dsimp only
    rw [wrapI (n := done + 1) (by omega)]
    exact good_of hp rfl ⟨p7, p0, p1, fun _ => hne, by simp only; omega, by simp only [mostI, if_true]; omega, fun e => (by cases e), rfl⟩ (fun _ => by simp [needN]; omega) (by simp only; omega) (by simp only; omega) (fun _ => rfl) (fun e => by cases e)
  split at hf
  · rename_i hk2 hk3 hk4 hk
    simp only [Bool.and_eq_true, beq_iff_eq] at hf
    obtain ⟨rfl, hn⟩ := hf
    have hnn := kind_n hr (.inr (.inr hk))
    simp only [mostI] at p3 hml
    rw [wrapI (by omega)] at hn
    rw [nextS, if_neg hk2, if_neg hk3, if_neg hk4, if_pos hk]
    exact good_of hp rfl ⟨p7, p0, p1, p4, by simp only; omega, by simp only [mostI]; omega, fun e => (by cases e), rfl⟩ (fun _ => by simp [needN]; omega) (by simp only; omega) (by simp only; omega) (fun _ => rfl) (fun _ => by simp only; omega)
  split at hf
  · rename_i hk2 hk3 hk4 hk5 hk
    have hnn := rec_end hr hk
    rw [nextS, if_neg hk2, if_neg hk3, if_neg hk4, if_neg hk5]
    exact good_of hp rfl ⟨p7, p0, p1, p4, p2, p3, p5, hf⟩ (fun e => by simp only at e; omega) (by simp only; omega) (by simp only; omega) (fun e => e) (fun _ => by simp only; omega)
  · cases hf
theorem ex_at {id : Int} {a n : Nat} (ha : a < 5) (hn : n < 5) : recK id ((a + 2 : Nat) : Int) n ∈ exL id 5 := by
  unfold exL
  rw [List.mem_flatMap]
  exact ⟨a, List.mem_range.2 ha, List.mem_map.2 ⟨n, List.mem_range.2 hn, rfl⟩⟩
theorem recK_may {id k n : Int} (h : 1 ≤ id ∧ id ≤ 20) (h1 : ¬ k = 1) (hk : kindB k n = true) : recB (recK id k n) = true := by
  rw [recB, Bool.and_eq_true]
  refine ⟨by show (decide (1 ≤ id) && decide (id ≤ 20)) = true; simp [h], ?_⟩
  show (if k = 1 then _ else _ : Bool) = true
  rw [if_neg h1, Bool.and_eq_true]
  exact ⟨rfl, hk⟩
theorem some_goes {s : Saga} (R : List Rec) (hs : sagaB s = true) (hst : s.status = 0) : ∃ r ∈ recsL R s.id, (applyS s r).2 = 0 := by
  have hp := parts_iff.1 hs
  have hl := parts_len hp
  have hid : 1 ≤ s.id ∧ s.id ≤ 20 := ⟨hl.2.2.1, hl.2.2.2⟩
  have p0 := hp.d0
  have p1 := hp.d1
  have p2 := hp.l0
  have p3 := hp.l1
  have hml := most_le hp
  have mem : ∀ {r : Rec}, r ∈ exL s.id 5 → r ∈ recsL R s.id := fun h => List.mem_append_right _ h
  have goes : ∀ (a n : Nat), a < 5 → n < 5 → kindB ((a + 2 : Nat) : Int) n = true → fitsB s (recK s.id ((a + 2 : Nat) : Int) n) = true → ∃ r ∈ recsL R s.id, (applyS s r).2 = 0 := fun a n ha hn hk hf =>
    ⟨_, mem (ex_at ha hn), apply_goes hs (recK_may hid (by omega) hk) rfl hst hf⟩
  cases hb : s.back with
  | true =>
    by_cases h0 : s.left = 0
    · exact goes 4 2 (by decide) (by decide) rfl (by
        show endsB s 2 = true
        rw [endsB, hb, h0]; rfl)
    · have hmost : mostI s ≤ 5 := by
        unfold mostI at *
        split
        · rename_i ho; have := hp.ou ho; omega
        · omega
      refine goes 3 (s.left - 1).toNat (by decide) (by omega) ?_ ?_
      · show kindB 5 _ = true
        rw [kindB, if_pos (.inr (.inr rfl))]
        simp; omega
      · show (s.back && (((s.left - 1).toNat : Int) == IntKind.i64.wrap (s.left - 1))) = true
        rw [hb, wrapI (by omega)]
        simp; omega
  | false =>
    cases ho : s.out with
    | true =>
      have hne := hp.ou ho
      refine goes 1 s.done.toNat (by decide) (by omega) ?_ ?_
      · show kindB 3 _ = true
        rw [kindB, if_pos (.inr (.inl rfl))]
        simp; omega
      · show (!s.back && (s.out && (((s.done.toNat : Nat) : Int) == s.done))) = true
        rw [hb, ho]
        simp; omega
    | false =>
      by_cases hd : s.done = s.steps.length
      · exact goes 4 1 (by decide) (by decide) rfl (by
          show endsB s 1 = true
          rw [endsB, hb, ho, hd]; simp)
      · refine goes 0 s.done.toNat (by decide) (by omega) ?_ ?_
        · show kindB 2 _ = true
          rw [kindB, if_pos (.inl rfl)]
          simp; omega
        · show (!s.back && (!s.out && ((((s.done.toNat : Nat) : Int) == s.done) && decide (s.done < s.steps.length)))) = true
          rw [hb, ho]
          simp; omega
end Go.Rx
