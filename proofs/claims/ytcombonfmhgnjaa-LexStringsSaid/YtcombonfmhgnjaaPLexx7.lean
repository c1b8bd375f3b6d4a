-- printed by this session's program (over the kit's print) out of the translation; Lean checks it
import Derived.Test.YtcombonfmhgnjaaPLexx0
namespace Go.Proofs.Ytcombonfmhgnjaa.PLex
open Go.RowKit Go.Proofs.YtcombonfmhgnjaaW.PrintWords Go.Proofs.YtcombonfmhgnjaaW.PrintLast Go.Proofs.YtcombonfmhgnjaaW.PrintMore
attribute [local go_sem] max2_int min2_int max_two min_two max_three min_three max_four min_four   -- for this text's walks alone
set_option linter.unusedVariables false
set_option linter.unusedSimpArgs false

/-! ### amanuensisref2_letter: function 55 -/
def amanuensisref2_letter.f (a0 : Int) : Option (Bool) := if a0 ≥ 97 then (if a0 ≤ 122 then (some true) else (if a0 ≥ 65 then (if a0 ≤ 90 then (some true) else (some (a0 == 95))) else (some (a0 == 95)))) else (if a0 ≥ 65 then (if a0 ≤ 90 then (some true) else (some (a0 == 95))) else (some (a0 == 95)))
set_option maxHeartbeats 8000000 in
set_option maxRecDepth 100000 in
theorem amanuensisref2_letter.calls (a0 : Int) (r : Bool) (w : World) (h : amanuensisref2_letter.f a0 = some r) :
    Calls Try.prog 55 #[.int .u8 a0] w fun e w' => e = .returned (.bool r) ∧ Drawn0 w w' := by
  have H : (if a0 ≥ 97 then (if a0 ≤ 122 then (some true) else (if a0 ≥ 65 then (if a0 ≤ 90 then (some true) else (some (a0 == 95))) else (some (a0 == 95)))) else (if a0 ≥ 65 then (if a0 ≤ 90 then (some true) else (some (a0 == 95))) else (some (a0 == 95)))) = some r := h
  clear h
  by_cases c2 : a0 ≥ 97
  · rw [if_pos c2] at H
    have c2b0 : decide (97 ≤ a0) = true := decide_eq_true c2
    clear c2
    by_cases c3 : a0 ≤ 122
    · rw [if_pos c3] at H
      have c3b0 : decide (a0 ≤ 122) = true := decide_eq_true c3
      clear c3
      obtain rfl := Option.some.inj H
      go_enter Try.func55, Try.ntmps55
      go_wp2
      go_ret
      exact ⟨by first | rfl | (simp; done) | (simp [*]; done), by repeat (first | exact Drawn0.refl _ | apply Drawn0.step)⟩
    · rw [if_neg c3] at H
      have c3b0 : decide (a0 ≤ 122) = false := decide_eq_false c3
      clear c3
      by_cases c4 : a0 ≥ 65
      · rw [if_pos c4] at H
        have c4b0 : decide (65 ≤ a0) = true := decide_eq_true c4
        clear c4
        by_cases c5 : a0 ≤ 90
        · rw [if_pos c5] at H
          have c5b0 : decide (a0 ≤ 90) = true := decide_eq_true c5
          clear c5
          obtain rfl := Option.some.inj H
          go_enter Try.func55, Try.ntmps55
          go_wp2
          go_ret
          exact ⟨by first | rfl | (simp; done) | (simp [*]; done), by repeat (first | exact Drawn0.refl _ | apply Drawn0.step)⟩
        · rw [if_neg c5] at H
          have c5b0 : decide (a0 ≤ 90) = false := decide_eq_false c5
          clear c5
          obtain rfl := Option.some.inj H
          go_enter Try.func55, Try.ntmps55
          go_wp2
          go_ret
          exact ⟨by first | rfl | (simp; done) | (simp [*]; done), by repeat (first | exact Drawn0.refl _ | apply Drawn0.step)⟩
      · rw [if_neg c4] at H
        have c4b0 : decide (65 ≤ a0) = false := decide_eq_false c4
        clear c4
        obtain rfl := Option.some.inj H
        go_enter Try.func55, Try.ntmps55
        go_wp2
        go_ret
        exact ⟨by first | rfl | (simp; done) | (simp [*]; done), by repeat (first | exact Drawn0.refl _ | apply Drawn0.step)⟩
  · rw [if_neg c2] at H
    have c2b0 : decide (97 ≤ a0) = false := decide_eq_false c2
    clear c2
    by_cases c6 : a0 ≥ 65
    · rw [if_pos c6] at H
      have c6b0 : decide (65 ≤ a0) = true := decide_eq_true c6
      clear c6
      by_cases c7 : a0 ≤ 90
      · rw [if_pos c7] at H
        have c7b0 : decide (a0 ≤ 90) = true := decide_eq_true c7
        clear c7
        obtain rfl := Option.some.inj H
        go_enter Try.func55, Try.ntmps55
        go_wp2
        go_ret
        exact ⟨by first | rfl | (simp; done) | (simp [*]; done), by repeat (first | exact Drawn0.refl _ | apply Drawn0.step)⟩
      · rw [if_neg c7] at H
        have c7b0 : decide (a0 ≤ 90) = false := decide_eq_false c7
        clear c7
        obtain rfl := Option.some.inj H
        go_enter Try.func55, Try.ntmps55
        go_wp2
        go_ret
        exact ⟨by first | rfl | (simp; done) | (simp [*]; done), by repeat (first | exact Drawn0.refl _ | apply Drawn0.step)⟩
    · rw [if_neg c6] at H
      have c6b0 : decide (65 ≤ a0) = false := decide_eq_false c6
      clear c6
      obtain rfl := Option.some.inj H
      go_enter Try.func55, Try.ntmps55
      go_wp2
      go_ret
      exact ⟨by first | rfl | (simp; done) | (simp [*]; done), by repeat (first | exact Drawn0.refl _ | apply Drawn0.step)⟩

/-! ### amanuensisref2_digit: function 56 -/
def amanuensisref2_digit.f (a0 : Int) : Option (Bool) := if a0 ≥ 48 then (some (decide (a0 ≤ 57))) else (some false)
set_option maxHeartbeats 8000000 in
set_option maxRecDepth 100000 in
theorem amanuensisref2_digit.calls (a0 : Int) (r : Bool) (w : World) (h : amanuensisref2_digit.f a0 = some r) :
    Calls Try.prog 56 #[.int .u8 a0] w fun e w' => e = .returned (.bool r) ∧ Drawn0 w w' := by
  have H : (if a0 ≥ 48 then (some (decide (a0 ≤ 57))) else (some false)) = some r := h
  clear h
  by_cases c2 : a0 ≥ 48
  · rw [if_pos c2] at H
    have c2b0 : decide (48 ≤ a0) = true := decide_eq_true c2
    clear c2
    obtain rfl := Option.some.inj H
    go_enter Try.func56, Try.ntmps56
    go_wp2
    go_ret
    exact ⟨by first | rfl | (simp; done) | (simp [*]; done), by repeat (first | exact Drawn0.refl _ | apply Drawn0.step)⟩
  · rw [if_neg c2] at H
    have c2b0 : decide (48 ≤ a0) = false := decide_eq_false c2
    clear c2
    obtain rfl := Option.some.inj H
    go_enter Try.func56, Try.ntmps56
    go_wp2
    go_ret
    exact ⟨by first | rfl | (simp; done) | (simp [*]; done), by repeat (first | exact Drawn0.refl _ | apply Drawn0.step)⟩

/-! ### amanuensisref1_Int: function 57 -/
mutual
def amanuensisref1_Int.j0 : Nat → ByteArray → ByteArray → Bool → Option (Int × Bool)
  | 0, _, _, _ => none
  | k + 1, x0, x4, x15 => if x15 = true then (if 1 ≤ (x4.size : Int) then (amanuensisref1_Int.j1 k x0 (x4.extract 1 x4.size)) else (none)) else (amanuensisref1_Int.j1 k x0 x4)
def amanuensisref1_Int.j1 : Nat → ByteArray → ByteArray → Option (Int × Bool)
  | 0, _, _ => none
  | k + 1, x0, x4 => if (x4.size : Int) = 0 then (amanuensisref1_Int.j2 k x0 x4 true) else (if (x4.size : Int) > 10 then (amanuensisref1_Int.j2 k x0 x4 true) else (if 0 < (x4.size : Int) then (if (bt x4 0) = 48 then (amanuensisref1_Int.j2 k x0 x4 (x0.toList != ([48] : List UInt8))) else (amanuensisref1_Int.j2 k x0 x4 false)) else (none)))
def amanuensisref1_Int.j2 : Nat → ByteArray → ByteArray → Bool → Option (Int × Bool)
  | 0, _, _, _ => none
  | k + 1, x0, x4, x34 => if x34 = true then (some (0, false)) else (amanuensisref1_Int.l0 k x0 x4 0 0)
def amanuensisref1_Int.l0 : Nat → ByteArray → ByteArray → Int → Int → Option (Int × Bool)
  | 0, _, _, _, _ => none
  | k + 1, x0, x4, x5, x6 => if x6 < (x4.size : Int) then (if 0 ≤ x6 then (if (bt x4 x6) < 48 then (some (0, false)) else (if (bt x4 x6) > 57 then (some (0, false)) else (amanuensisref1_Int.l0 k x0 x4 (wrap64 ((wrap64 (10 * x5)) + (((bt x4 x6) - 48) % 256))) (wrap64 (x6 + 1))))) else (none)) else (if x5 > 1073741824 then (some (0, false)) else (if (x4.size : Int) < (x0.size : Int) then (some (wrap64 (-x5), true)) else (some (x5, true))))
end
def amanuensisref1_Int.f (k : Nat) (a0 : ByteArray) : Option (Int × Bool) := if (a0.size : Int) > 0 then (if 0 < (a0.size : Int) then (amanuensisref1_Int.j0 k a0 a0 ((bt a0 0) == 45)) else (none)) else (amanuensisref1_Int.j0 k a0 a0 false)
theorem amanuensisref1_Int.mono_l : ∀ k, (∀ y0 y1 y2, LeO (amanuensisref1_Int.j0 k y0 y1 y2) (amanuensisref1_Int.j0 (k + 1) y0 y1 y2)) ∧ (∀ y0 y1, LeO (amanuensisref1_Int.j1 k y0 y1) (amanuensisref1_Int.j1 (k + 1) y0 y1)) ∧ (∀ y0 y1 y2, LeO (amanuensisref1_Int.j2 k y0 y1 y2) (amanuensisref1_Int.j2 (k + 1) y0 y1 y2)) ∧ (∀ y0 y1 y2 y3, LeO (amanuensisref1_Int.l0 k y0 y1 y2 y3) (amanuensisref1_Int.l0 (k + 1) y0 y1 y2 y3))
  | 0 => ⟨fun _ _ _ r h => by simp [amanuensisref1_Int.j0] at h, fun _ _ r h => by simp [amanuensisref1_Int.j1] at h, fun _ _ _ r h => by simp [amanuensisref1_Int.j2] at h, fun _ _ _ _ r h => by simp [amanuensisref1_Int.l0] at h⟩
  | k + 1 => by
    obtain ⟨ih0, ih1, ih2, ih3⟩ := amanuensisref1_Int.mono_l k
    refine ⟨?_, ?_, ?_, ?_⟩
    · intro y0 y1 y2
      unfold amanuensisref1_Int.j0
      repeat' first
      | (with_reducible exact ih0 _ _ _)
      | (with_reducible exact ih1 _ _)
      | (with_reducible exact ih2 _ _ _)
      | (with_reducible exact ih3 _ _ _ _)
      | (with_reducible exact LeO.refl _)
      | (with_reducible exact LeO.none _)
      | (with_reducible refine LeO.ite ?_ ?_)
      | (with_reducible refine LeO.bind ?_ (fun _ => ?_))
      | exact ih0 _ _ _
      | exact ih1 _ _
      | exact ih2 _ _ _
      | exact ih3 _ _ _ _
      | exact LeO.none _
      | refine LeO.ite ?_ ?_
      | refine LeO.bind ?_ (fun _ => ?_)
    · intro y0 y1
      unfold amanuensisref1_Int.j1
      repeat' first
      | (with_reducible exact ih0 _ _ _)
      | (with_reducible exact ih1 _ _)
      | (with_reducible exact ih2 _ _ _)
      | (with_reducible exact ih3 _ _ _ _)
      | (with_reducible exact LeO.refl _)
      | (with_reducible exact LeO.none _)
      | (with_reducible refine LeO.ite ?_ ?_)
      | (with_reducible refine LeO.bind ?_ (fun _ => ?_))
      | exact ih0 _ _ _
      | exact ih1 _ _
      | exact ih2 _ _ _
      | exact ih3 _ _ _ _
      | exact LeO.none _
      | refine LeO.ite ?_ ?_
      | refine LeO.bind ?_ (fun _ => ?_)
    · intro y0 y1 y2
      unfold amanuensisref1_Int.j2
      repeat' first
      | (with_reducible exact ih0 _ _ _)
      | (with_reducible exact ih1 _ _)
      | (with_reducible exact ih2 _ _ _)
      | (with_reducible exact ih3 _ _ _ _)
      | (with_reducible exact LeO.refl _)
      | (with_reducible exact LeO.none _)
      | (with_reducible refine LeO.ite ?_ ?_)
      | (with_reducible refine LeO.bind ?_ (fun _ => ?_))
      | exact ih0 _ _ _
      | exact ih1 _ _
      | exact ih2 _ _ _
      | exact ih3 _ _ _ _
      | exact LeO.none _
      | refine LeO.ite ?_ ?_
      | refine LeO.bind ?_ (fun _ => ?_)
    · intro y0 y1 y2 y3
      unfold amanuensisref1_Int.l0
      repeat' first
      | (with_reducible exact ih0 _ _ _)
      | (with_reducible exact ih1 _ _)
      | (with_reducible exact ih2 _ _ _)
      | (with_reducible exact ih3 _ _ _ _)
      | (with_reducible exact LeO.refl _)
      | (with_reducible exact LeO.none _)
      | (with_reducible refine LeO.ite ?_ ?_)
      | (with_reducible refine LeO.bind ?_ (fun _ => ?_))
      | exact ih0 _ _ _
      | exact ih1 _ _
      | exact ih2 _ _ _
      | exact ih3 _ _ _ _
      | exact LeO.none _
      | refine LeO.ite ?_ ?_
      | refine LeO.bind ?_ (fun _ => ?_)
theorem amanuensisref1_Int.mono : ∀ a0 k, LeO (amanuensisref1_Int.f k a0) (amanuensisref1_Int.f (k + 1) a0) := by
  intro a0 k
  obtain ⟨ih0, ih1, ih2, ih3⟩ := amanuensisref1_Int.mono_l k
  unfold amanuensisref1_Int.f
  repeat' first
      | (with_reducible exact ih0 _ _ _)
      | (with_reducible exact ih1 _ _)
      | (with_reducible exact ih2 _ _ _)
      | (with_reducible exact ih3 _ _ _ _)
      | (with_reducible exact LeO.refl _)
      | (with_reducible exact LeO.none _)
      | (with_reducible refine LeO.ite ?_ ?_)
      | (with_reducible refine LeO.bind ?_ (fun _ => ?_))
      | exact ih0 _ _ _
      | exact ih1 _ _
      | exact ih2 _ _ _
      | exact ih3 _ _ _ _
      | exact LeO.none _
      | refine LeO.ite ?_ ?_
      | refine LeO.bind ?_ (fun _ => ?_)
set_option maxHeartbeats 8000000 in
set_option maxRecDepth 100000 in
theorem amanuensisref1_Int.calls (k : Nat) (a0 : ByteArray) (r1 : Int) (r2 : Bool) (w : World) (h : amanuensisref1_Int.f k a0 = some (r1, r2)) :
    Calls Try.prog 57 #[.string a0] w fun e w' => e = .returned (.tuple #[.int .i64 r1, .bool r2]) ∧ Drawn0 w w' := by
  have H : (if (a0.size : Int) > 0 then (if 0 < (a0.size : Int) then (amanuensisref1_Int.j0 k a0 a0 ((bt a0 0) == 45)) else (none)) else (amanuensisref1_Int.j0 k a0 a0 false)) = some (r1, r2) := h
  clear h
  have HC2 := Aside0.mk H
  clear H
  go_enter Try.func57, Try.ntmps57
  go_upto_region 2 with (fail)
  go_cut [15] (fun v15 wc => ∃ (kq : Nat) (x15_1 : Bool), v15 = .bool x15_1 ∧ Aside0 (amanuensisref1_Int.j0 kq a0 a0 x15_1 = some (r1, r2)) ∧ Aside0 (kq ≤ k) ∧ Drawn0 w wc)
  case first =>
    have H := HC2.out
    clear HC2
    by_cases c3 : (a0.size : Int) > 0
    · rw [if_pos c3] at H
      have c3b0 : decide (0 < (a0.size : Int)) = true := decide_eq_true c3
      have c3b1 : decide (0 < a0.size) = true := decide_eq_true (by omega)
      clear c3
      (first | rw [c3b0] | (simp only [i64_w, i32_w]; rw [c3b0]) | skip)
      by_cases c4 : 0 < (a0.size : Int)
      · rw [if_pos c4] at H
        have c4b0 : decide (0 < (a0.size : Int)) = true := decide_eq_true c4
        have c4b1 : decide (0 < a0.size) = true := decide_eq_true (by omega)
        clear c4
        have H' := Aside0.mk H
        clear H
        have p5 : 0 ≤ (0 : Int) := (by omega)
        have q5 : 0 < a0.size := (by have : (0 : Int) < (a0.size : Int) := of_decide_eq_true (by first | (with_reducible assumption) | assumption); omega)
        have hx5 : ∀ h : 0 < a0.size, ((a0[0]'h).toNat : Int) = bt a0 0 := bt_at a0 0
        clear p5
        have qi5 : (0 < (a0.size : Int)) = True := eq_true (of_decide_eq_true (by first | (with_reducible assumption) | assumption))
        replace q5 := eq_true q5
        go_wp2
        go_meet
        case rel => exact ⟨_, (((bt a0 0) == 45)), (by first | rfl | (simp; done) | (simp [*]; done)), H', ⟨by first | omega | exact Nat.le_refl _⟩, by repeat (first | exact Drawn0.refl _ | apply Drawn0.step)⟩
      · rw [if_neg c4] at H
        exact absurd H (by simp)
    · rw [if_neg c3] at H
      have c3b0 : decide (0 < (a0.size : Int)) = false := decide_eq_false c3
      have c3b1 : decide (0 < a0.size) = false := decide_eq_false (by omega)
      clear c3
      (first | rw [c3b0] | (simp only [i64_w, i32_w]; rw [c3b0]) | skip)
      have H' := Aside0.mk H
      clear H
      go_wp2
      go_meet
      case rel => exact ⟨_, (false), (by first | rfl | (simp; done) | (simp [*]; done)), H', ⟨by first | omega | exact Nat.le_refl _⟩, by repeat (first | exact Drawn0.refl _ | apply Drawn0.step)⟩
  case rest =>
    clear HC2
    try clear p2
    try clear c3
    try clear c3b0
    try clear c3b1
    try clear c4
    try clear c4b0
    try clear c4b1
    try clear c5
    try clear p5
    try clear q5
    try clear hx5
    try clear qi5
    try clear p5
    try clear q5
    obtain ⟨kq, x15_1, rfl, HA, HJ1, ⟨mc1, rfl⟩⟩ := hcut
    cases kq with
    | zero => exact absurd HA.out (by simp [amanuensisref1_Int.j0])
    | succ kj1 =>
      have H := HA.out
      clear HA
      simp only [amanuensisref1_Int.j0] at H
      have HC6 := Aside0.mk H
      clear H
      go_upto_if 15 with (fail)
      go_cut [4] (fun v4 wc => ∃ (kq : Nat) (x4_5 : ByteArray), v4 = .string x4_5 ∧ Aside0 (amanuensisref1_Int.j1 kq a0 x4_5 = some (r1, r2)) ∧ Aside0 (kq ≤ kj1) ∧ Drawn0 w wc)
      case first =>
        have H := HC6.out
        clear HC6
        by_cases c7 : x15_1 = true
        · subst c7
          have H1 : (if 1 ≤ (a0.size : Int) then (amanuensisref1_Int.j1 kj1 a0 (a0.extract 1 a0.size)) else (none)) = some (r1, r2) := by rw [if_pos rfl] at H; exact H
          clear H
          have H := H1
          clear H1
          by_cases c8 : 1 ≤ (a0.size : Int)
          · rw [if_pos c8] at H
            have c8b0 := eq_true c8
            have c8b1 : decide (1 ≤ (a0.size : Int)) = true := decide_eq_true c8
            clear c8
            have H' := Aside0.mk H
            clear H
            go_wp2
            go_meet
            case rel => exact ⟨_, (a0.extract 1 a0.size), (by first | rfl | (simp; done) | (simp [*]; done)), H', ⟨by have := HJ1.out; first | omega | exact Nat.le_refl _⟩, by repeat (first | exact Drawn0.refl _ | apply Drawn0.step)⟩
          · rw [if_neg c8] at H
            exact absurd H (by simp)
        · replace c7 := Bool.eq_false_iff.mpr c7
          subst c7
          have H1 : (amanuensisref1_Int.j1 kj1 a0 a0) = some (r1, r2) := by rw [if_neg (show ¬ (false = true) by decide)] at H; exact H
          clear H
          have H := H1
          clear H1
          have H' := Aside0.mk H
          clear H
          go_wp2
          go_meet
          case rel => exact ⟨_, (a0), (by first | rfl | (simp; done) | (simp [*]; done)), H', ⟨by have := HJ1.out; first | omega | exact Nat.le_refl _⟩, by repeat (first | exact Drawn0.refl _ | apply Drawn0.step)⟩
      case rest =>
        clear HC6
        try clear c1
        try clear p2
        try clear c3
        try clear c3b0
        try clear c3b1
        try clear c4
        try clear c4b0
        try clear c4b1
        try clear c5
        try clear p5
        try clear q5
        try clear hx5
        try clear qi5
        try clear c7
        try clear c8
        try clear c8b0
        try clear c8b1
        try clear p2
        try clear p5
        try clear q5
        obtain ⟨kq, x4_5, rfl, HA, HJ5, ⟨mc5, rfl⟩⟩ := hcut
        cases kq with
        | zero => exact absurd HA.out (by simp [amanuensisref1_Int.j1])
        | succ kj5 =>
          have H := HA.out
          clear HA
          simp only [amanuensisref1_Int.j1] at H
          have HC9 := Aside0.mk H
          clear H
          go_upto_region 4 with (fail)
          go_cut [34] (fun v34 wc => ∃ (kq : Nat) (x34_8 : Bool), v34 = .bool x34_8 ∧ Aside0 (amanuensisref1_Int.j2 kq a0 x4_5 x34_8 = some (r1, r2)) ∧ Aside0 (kq ≤ kj5) ∧ Drawn0 w wc)
          case first =>
            have H := HC9.out
            clear HC9
            by_cases c10 : (x4_5.size : Int) = 0
            · rw [if_pos c10] at H
              have c10b0 : ((x4_5.size : Int) == 0) = true := beq_iff_eq.mpr c10
              have c10b1 : ((x4_5.size : Int) != 0) = false := bne_eq_false_iff_eq.mpr c10
              clear c10
              (first | rw [c10b0] | (simp only [i64_w, i32_w]; rw [c10b0]) | skip)
              have H' := Aside0.mk H
              clear H
              go_wp2
              go_meet
              case rel => exact ⟨_, (true), (by first | rfl | (simp; done) | (simp [*]; done)), H', ⟨by have := HJ1.out; have := HJ5.out; first | omega | exact Nat.le_refl _⟩, by repeat (first | exact Drawn0.refl _ | apply Drawn0.step)⟩
            · rw [if_neg c10] at H
              have c10b0 : ((x4_5.size : Int) == 0) = false := beq_eq_false_iff_ne.mpr c10
              have c10b1 : ((x4_5.size : Int) != 0) = true := bne_iff_ne.mpr c10
              (first | rw [c10b0] | (simp only [i64_w, i32_w]; rw [c10b0]) | skip)
              by_cases c11 : (x4_5.size : Int) > 10
              · rw [if_pos c11] at H
                have c11b0 : decide (10 < (x4_5.size : Int)) = true := decide_eq_true c11
                have c11b1 : decide (10 < x4_5.size) = true := decide_eq_true (by omega)
                clear c11
                have H' := Aside0.mk H
                clear H
                go_wp2
                go_meet
                case rel => exact ⟨_, (true), (by first | rfl | (simp; done) | (simp [*]; done)), H', ⟨by have := HJ1.out; have := HJ5.out; first | omega | exact Nat.le_refl _⟩, by repeat (first | exact Drawn0.refl _ | apply Drawn0.step)⟩
              · rw [if_neg c11] at H
                have c11b0 : decide (10 < (x4_5.size : Int)) = false := decide_eq_false c11
                have c11b1 : decide (10 < x4_5.size) = false := decide_eq_false (by omega)
                clear c11
                by_cases c12 : 0 < (x4_5.size : Int)
                · rw [if_pos c12] at H
                  have c12b0 : decide (0 < (x4_5.size : Int)) = true := decide_eq_true c12
                  have c12b1 : decide (0 < x4_5.size) = true := decide_eq_true (by omega)
                  clear c12
                  by_cases c14 : (bt x4_5 0) = 48
                  · rw [if_pos c14] at H
                    have c14b0 : ((bt x4_5 0) == 48) = true := beq_iff_eq.mpr c14
                    have c14b1 : ((bt x4_5 0) != 48) = false := bne_eq_false_iff_eq.mpr c14
                    clear c14
                    have H' := Aside0.mk H
                    clear H
                    have p13 : 0 ≤ (0 : Int) := (by omega)
                    have q13 : 0 < x4_5.size := (by have : (0 : Int) < (x4_5.size : Int) := of_decide_eq_true (by first | (with_reducible assumption) | assumption); omega)
                    have hx13 : ∀ h : 0 < x4_5.size, ((x4_5[0]'h).toNat : Int) = bt x4_5 0 := bt_at x4_5 0
                    clear p13
                    have qi13 : (0 < (x4_5.size : Int)) = True := eq_true (of_decide_eq_true (by first | (with_reducible assumption) | assumption))
                    replace q13 := eq_true q13
                    go_wp2
                    go_meet
                    case rel => exact ⟨_, ((a0.toList != ([48] : List UInt8))), (by first | rfl | (simp; done) | (simp [*]; done)), H', ⟨by have := HJ1.out; have := HJ5.out; first | omega | exact Nat.le_refl _⟩, by repeat (first | exact Drawn0.refl _ | apply Drawn0.step)⟩
                  · rw [if_neg c14] at H
                    have c14b0 : ((bt x4_5 0) == 48) = false := beq_eq_false_iff_ne.mpr c14
                    have c14b1 : ((bt x4_5 0) != 48) = true := bne_iff_ne.mpr c14
                    have H' := Aside0.mk H
                    clear H
                    have p13 : 0 ≤ (0 : Int) := (by omega)
                    have q13 : 0 < x4_5.size := (by have : (0 : Int) < (x4_5.size : Int) := of_decide_eq_true (by first | (with_reducible assumption) | assumption); omega)
                    have hx13 : ∀ h : 0 < x4_5.size, ((x4_5[0]'h).toNat : Int) = bt x4_5 0 := bt_at x4_5 0
                    clear p13
                    have qi13 : (0 < (x4_5.size : Int)) = True := eq_true (of_decide_eq_true (by first | (with_reducible assumption) | assumption))
                    replace q13 := eq_true q13
                    go_wp2
                    go_meet
                    case rel => exact ⟨_, (false), (by first | rfl | (simp; done) | (simp [*]; done)), H', ⟨by have := HJ1.out; have := HJ5.out; first | omega | exact Nat.le_refl _⟩, by repeat (first | exact Drawn0.refl _ | apply Drawn0.step)⟩
                · rw [if_neg c12] at H
                  exact absurd H (by simp)
          case rest =>
            clear HC9
            try clear c1
            try clear p1
            try clear q1
            try clear hx1
            try clear qi1
            try clear p2
            try clear c3
            try clear c3b0
            try clear c3b1
            try clear c4
            try clear c4b0
            try clear c4b1
            try clear c5
            try clear p5
            try clear q5
            try clear hx5
            try clear qi5
            try clear c7
            try clear c8
            try clear c8b0
            try clear c8b1
            try clear c10
            try clear c10b0
            try clear c10b1
            try clear c11
            try clear c11b0
            try clear c11b1
            try clear c12
            try clear c12b0
            try clear c12b1
            try clear p13
            try clear q13
            try clear hx13
            try clear qi13
            try clear c14
            try clear c14b0
            try clear c14b1
            try clear p13
            try clear p2
            try clear p5
            try clear q13
            try clear q5
            obtain ⟨kq, x34_8, rfl, HA, HJ8, ⟨mc8, rfl⟩⟩ := hcut
            cases kq with
            | zero => exact absurd HA.out (by simp [amanuensisref1_Int.j2])
            | succ kj8 =>
              have H := HA.out
              clear HA
              simp only [amanuensisref1_Int.j2] at H
              by_cases c15 : x34_8 = true
              · subst c15
                have H1 : (some (0, false)) = some (r1, r2) := by rw [if_pos rfl] at H; exact H
                clear H
                have H := H1
                clear H1
                simp only [Option.some.injEq, Prod.mk.injEq] at H
                obtain ⟨rfl, rfl⟩ := H
                go_wp2
                go_ret2
                exact ⟨by first | rfl | (simp; done) | (simp [*]; done), by repeat (first | exact Drawn0.refl _ | apply Drawn0.step)⟩
              · replace c15 := Bool.eq_false_iff.mpr c15
                subst c15
                have H1 : (amanuensisref1_Int.l0 kj8 a0 x4_5 0 0) = some (r1, r2) := by rw [if_neg (show ¬ (false = true) by decide)] at H; exact H
                clear H
                have H := H1
                clear H1
                have H' := Aside0.mk H
                clear H
                go_wp2
                go_loopg [5, 6] kj8 (fun kq v5 v6 w' => ∃ (x5_4 : Int) (x6_4 : Int), v5 = .int .i64 x5_4 ∧ v6 = .int .i64 x6_4 ∧ Aside0 (amanuensisref1_Int.l0 kq a0 x4_5 x5_4 x6_4 = some (r1, r2)) ∧ Aside0 (kq ≤ kj8) ∧ Drawn0 w w')
                case atStart => exact ⟨(0), (0), (by first | rfl | (simp; done) | (simp [*]; done)), (by first | rfl | (simp; done) | (simp [*]; done)), H', ⟨Nat.le_refl _⟩, by repeat (first | exact Drawn0.refl _ | apply Drawn0.step)⟩
                case round =>
                  clear H'
                  try clear c1
                  try clear p1
                  try clear q1
                  try clear hx1
                  try clear qi1
                  try clear p2
                  try clear c3
                  try clear c3b0
                  try clear c3b1
                  try clear c4
                  try clear c4b0
                  try clear c4b1
                  try clear c5
                  try clear p5
                  try clear q5
                  try clear hx5
                  try clear qi5
                  try clear c7
                  try clear c8
                  try clear c8b0
                  try clear c8b1
                  try clear c10
                  try clear c10b0
                  try clear c10b1
                  try clear c11
                  try clear c11b0
                  try clear c11b1
                  try clear c12
                  try clear c12b0
                  try clear c12b1
                  try clear p13
                  try clear q13
                  try clear hx13
                  try clear qi13
                  try clear c14
                  try clear c14b0
                  try clear c14b1
                  try clear c15
                  try clear p1
                  try clear p13
                  try clear p2
                  try clear p5
                  try clear q1
                  try clear q13
                  try clear q5
                  obtain ⟨x5_4, x6_4, rfl, rfl, HA, HK4, ⟨m4, rfl⟩⟩ := hrel
                  cases gk with
                  | zero => exact absurd HA.out (by simp [amanuensisref1_Int.l0])
                  | succ k4 =>
                    have H := HA.out
                    clear HA
                    simp only [amanuensisref1_Int.l0] at H
                    by_cases c16 : x6_4 < (x4_5.size : Int)
                    · rw [if_pos c16] at H
                      have c16b0 : decide (x6_4 < (x4_5.size : Int)) = true := decide_eq_true c16
                      clear c16
                      by_cases c17 : 0 ≤ x6_4
                      · rw [if_pos c17] at H
                        have c17b0 : decide (0 ≤ x6_4) = true := decide_eq_true c17
                        clear c17
                        by_cases c19 : (bt x4_5 x6_4) < 48
                        · rw [if_pos c19] at H
                          have c19b0 : decide ((bt x4_5 x6_4) < 48) = true := decide_eq_true c19
                          clear c19
                          simp only [Option.some.injEq, Prod.mk.injEq] at H
                          obtain ⟨rfl, rfl⟩ := H
                          have p18 : 0 ≤ (x6_4 : Int) := of_decide_eq_true (by first | (with_reducible assumption) | assumption)
                          have q18 : x6_4 < (x4_5.size : Int) := of_decide_eq_true (by first | (with_reducible assumption) | assumption)
                          have hx18 := bt_at x4_5 x6_4
                          replace p18 := eq_true p18
                          replace q18 := eq_true q18
                          go_wp2
                          go_ret2
                          exact ⟨by first | rfl | (simp; done) | (simp [*]; done), by repeat (first | exact Drawn0.refl _ | apply Drawn0.step)⟩
                        · rw [if_neg c19] at H
                          have c19b0 : decide ((bt x4_5 x6_4) < 48) = false := decide_eq_false c19
                          clear c19
                          by_cases c21 : (bt x4_5 x6_4) > 57
                          · rw [if_pos c21] at H
                            have c21b0 : decide (57 < (bt x4_5 x6_4)) = true := decide_eq_true c21
                            clear c21
                            simp only [Option.some.injEq, Prod.mk.injEq] at H
                            obtain ⟨rfl, rfl⟩ := H
                            have p18 : 0 ≤ (x6_4 : Int) := of_decide_eq_true (by first | (with_reducible assumption) | assumption)
                            have q18 : x6_4 < (x4_5.size : Int) := of_decide_eq_true (by first | (with_reducible assumption) | assumption)
                            have hx18 := bt_at x4_5 x6_4
                            replace p18 := eq_true p18
                            replace q18 := eq_true q18
                            have p20 : 0 ≤ (x6_4 : Int) := of_decide_eq_true (by first | (with_reducible assumption) | assumption)
                            have q20 : x6_4 < (x4_5.size : Int) := of_decide_eq_true (by first | (with_reducible assumption) | assumption)
                            have hx20 := bt_at x4_5 x6_4
                            replace p20 := eq_true p20
                            replace q20 := eq_true q20
                            go_wp2
                            go_ret2
                            exact ⟨by first | rfl | (simp; done) | (simp [*]; done), by repeat (first | exact Drawn0.refl _ | apply Drawn0.step)⟩
                          · rw [if_neg c21] at H
                            have c21b0 : decide (57 < (bt x4_5 x6_4)) = false := decide_eq_false c21
                            clear c21
                            have H' := Aside0.mk H
                            clear H
                            have p18 : 0 ≤ (x6_4 : Int) := of_decide_eq_true (by first | (with_reducible assumption) | assumption)
                            have q18 : x6_4 < (x4_5.size : Int) := of_decide_eq_true (by first | (with_reducible assumption) | assumption)
                            have hx18 := bt_at x4_5 x6_4
                            replace p18 := eq_true p18
                            replace q18 := eq_true q18
                            have p20 : 0 ≤ (x6_4 : Int) := of_decide_eq_true (by first | (with_reducible assumption) | assumption)
                            have q20 : x6_4 < (x4_5.size : Int) := of_decide_eq_true (by first | (with_reducible assumption) | assumption)
                            have hx20 := bt_at x4_5 x6_4
                            replace p20 := eq_true p20
                            replace q20 := eq_true q20
                            have p22 : 0 ≤ (x6_4 : Int) := of_decide_eq_true (by first | (with_reducible assumption) | assumption)
                            have q22 : x6_4 < (x4_5.size : Int) := of_decide_eq_true (by first | (with_reducible assumption) | assumption)
                            have hx22 := bt_at x4_5 x6_4
                            replace p22 := eq_true p22
                            replace q22 := eq_true q22
                            go_wp2
                            go_roundg k4
                            case measure => have := HJ1.out; have := HJ5.out; have := HJ8.out; have := HK4.out; omega
                            case rel => exact ⟨(wrap64 ((wrap64 (10 * x5_4)) + (((bt x4_5 x6_4) - 48) % 256))), (wrap64 (x6_4 + 1)), (by first | rfl | (simp; done) | (simp [*]; done)), (by first | rfl | (simp; done) | (simp [*]; done)), H', ⟨by have := HJ1.out; have := HJ5.out; have := HJ8.out; have := HK4.out; omega⟩, by repeat (first | exact Drawn0.refl _ | apply Drawn0.step)⟩
                      · rw [if_neg c17] at H
                        exact absurd H (by simp)
                    · rw [if_neg c16] at H
                      have c16b0 : decide (x6_4 < (x4_5.size : Int)) = false := decide_eq_false c16
                      clear c16
                      by_cases c23 : x5_4 > 1073741824
                      · rw [if_pos c23] at H
                        have c23b0 : decide (1073741824 < x5_4) = true := decide_eq_true c23
                        clear c23
                        simp only [Option.some.injEq, Prod.mk.injEq] at H
                        obtain ⟨rfl, rfl⟩ := H
                        go_wp2
                        go_ret2
                        exact ⟨by first | rfl | (simp; done) | (simp [*]; done), by repeat (first | exact Drawn0.refl _ | apply Drawn0.step)⟩
                      · rw [if_neg c23] at H
                        have c23b0 : decide (1073741824 < x5_4) = false := decide_eq_false c23
                        clear c23
                        by_cases c24 : (x4_5.size : Int) < (a0.size : Int)
                        · rw [if_pos c24] at H
                          have c24b0 : decide ((x4_5.size : Int) < (a0.size : Int)) = true := decide_eq_true c24
                          have c24b1 : decide (x4_5.size < a0.size) = true := decide_eq_true (Int.ofNat_lt.mp c24)
                          clear c24
                          simp only [Option.some.injEq, Prod.mk.injEq] at H
                          obtain ⟨rfl, rfl⟩ := H
                          go_wp2
                          go_ret2
                          exact ⟨by first | rfl | (simp; done) | (simp [*]; done), by repeat (first | exact Drawn0.refl _ | apply Drawn0.step)⟩
                        · rw [if_neg c24] at H
                          have c24b0 : decide ((x4_5.size : Int) < (a0.size : Int)) = false := decide_eq_false c24
                          have c24b1 : decide (x4_5.size < a0.size) = false := decide_eq_false (fun h => c24 (Int.ofNat_lt.mpr h))
                          clear c24
                          simp only [Option.some.injEq, Prod.mk.injEq] at H
                          obtain ⟨rfl, rfl⟩ := H
                          go_wp2
                          go_ret2
                          exact ⟨by first | rfl | (simp; done) | (simp [*]; done), by repeat (first | exact Drawn0.refl _ | apply Drawn0.step)⟩

/-! ### amanuensisref2_text: by hand: function 58 -/
def textGo : List UInt8 → Nat → List UInt8 → Nat × List UInt8
  | [], _, _ => (0, [])
  | [c], i, acc => if c.toNat = 34 then (if acc.length > 40 then (0, []) else (i + 1, acc)) else (0, [])
  | c :: d :: t, i, acc =>
    if c.toNat = 34 then (if acc.length > 40 then (0, []) else (i + 1, acc))
    else if c.toNat = 92 then (if d.toNat = 34 ∨ d.toNat = 92 then textGo t (i + 2) (acc ++ [d]) else (0, []))
    else if c.toNat < 32 ∨ 126 < c.toNat then (0, [])
    else textGo (d :: t) (i + 1) (acc ++ [c])
def amanuensisref2_text.f (a0 : ByteArray) : Option (Int × ByteArray) :=
  if a0.size ≤ 140737488355320 then (let r := textGo (a0.data.toList.drop 1) 1 []; some ((r.1 : Int), ⟨r.2.toArray⟩)) else none
theorem text_drop_at (s : ByteArray) (k : Nat) (h : k < s.size) : s.data.toList.drop k = s[k] :: s.data.toList.drop (k + 1) := by
  rw [List.drop_eq_getElem_cons (by simpa using h)]; rfl
theorem text_drop_end (s : ByteArray) (k : Nat) (h : s.size ≤ k) : s.data.toList.drop k = [] := List.drop_of_length_le (by rw [Array.length_toList]; exact h)
theorem textGo_long {c : UInt8} {t acc : List UInt8} {i : Nat} (h : c.toNat = 34) (hl : acc.length > 40) : textGo (c :: t) i acc = (0, []) := by
  cases t <;> simp [textGo, h, hl]
theorem textGo_q {c : UInt8} {t acc : List UInt8} {i : Nat} (h : c.toNat = 34) (hl : ¬ acc.length > 40) : textGo (c :: t) i acc = (i + 1, acc) := by
  cases t <;> simp only [textGo, if_pos h, if_neg hl]
theorem textGo_bad {c : UInt8} {t acc : List UInt8} {i : Nat} (h2 : ¬ c.toNat = 92) (h : c.toNat < 32 ∨ 126 < c.toNat) : textGo (c :: t) i acc = (0, []) := by
  have h1 : ¬ c.toNat = 34 := by omega
  cases t <;> simp only [textGo, if_neg h1, if_neg h2, if_pos h]
theorem textGo_plain {c : UInt8} {t acc : List UInt8} {i : Nat} (h1 : ¬ c.toNat = 34) (h2 : ¬ c.toNat = 92) (h : ¬ (c.toNat < 32 ∨ 126 < c.toNat)) : textGo (c :: t) i acc = textGo t (i + 1) (acc ++ [c]) := by
  cases t <;> simp only [textGo, if_neg h1, if_neg h2, if_neg h]
theorem textGo_esc {c d : UInt8} {t acc : List UInt8} {i : Nat} (h : c.toNat = 92) (h3 : d.toNat = 34 ∨ d.toNat = 92) : textGo (c :: d :: t) i acc = textGo t (i + 2) (acc ++ [d]) := by
  have h1 : ¬ c.toNat = 34 := by omega
  simp only [textGo, if_neg h1, if_pos h, if_pos h3]
theorem textGo_esc_no {c d : UInt8} {t acc : List UInt8} {i : Nat} (h : c.toNat = 92) (h3 : ¬ (d.toNat = 34 ∨ d.toNat = 92)) : textGo (c :: d :: t) i acc = (0, []) := by
  have h1 : ¬ c.toNat = 34 := by omega
  simp only [textGo, if_neg h1, if_pos h, if_neg h3]
theorem textGo_esc_end {c : UInt8} {acc : List UInt8} {i : Nat} (h : c.toNat = 92) : textGo [c] i acc = (0, []) := by
  have h1 : ¬ c.toNat = 34 := by omega
  simp only [textGo, if_neg h1]
theorem text_snoc (l : List UInt8) (c : UInt8) : Lib.byteCells l ++ [.int .u8 (c.toNat : Int)] = Lib.byteCells (l ++ [c]) := by simp [Lib.byteCells]
theorem text_nums (l : List UInt8) : Lib.byteCells l = nums .u8 (l.map fun c => (c.toNat : Int)) := by simp [Lib.byteCells, nums]
theorem text_strOf (l : List UInt8) : strOfNums (l.map fun c => (c.toNat : Int)) = ⟨l.toArray⟩ := by
  unfold strOfNums; rw [List.map_map]
  have : (fun n : Int => UInt8.ofNat n.toNat) ∘ (fun c : UInt8 => (c.toNat : Int)) = id := by funext c; simp
  rw [this, List.map_id]
theorem text_ret {a a' : ByteArray} {b b' : Int} (h : (b, a) = (b', a')) : Ending.returned (.tuple #[.int .i64 b, .string a]) = .returned (.tuple #[.int .i64 b', .string a']) := by
  injection h with h1 h2; rw [h1, h2]
theorem text_byte : (Try.prog.info? 5).map (fun i => (i.zero, i.size, i.bytes)) = some (some (.int .u8 0), 1, 1) := by kernel_rfl
theorem text_slice {w : World} {base n : Nat} {e : TypeId} {size : Nat} {v : Value} {xs : List Value} (h : w.ownsRow base e size v n xs) : ∃ A c, v = .slice A n c := by
  rcases h.2 with ⟨rfl, rfl⟩ | ⟨g, cap, cur, rfl, _⟩
  · exact ⟨none, 0, rfl⟩
  · exact ⟨_, cap, rfl⟩
set_option maxHeartbeats 8000000 in
set_option maxRecDepth 100000 in
theorem amanuensisref2_text.calls (a0 : ByteArray) (r1 : Int) (r2 : ByteArray) (w : World) (h : amanuensisref2_text.f a0 = some (r1, r2)) :
    Calls Try.prog 58 #[.string a0] w fun e w' => e = .returned (.tuple #[.int .i64 r1, .string r2]) ∧ Below w.heap.size w w' := by
  obtain ⟨i0, hi, hz0, hz1, hz2⟩ := info_parts text_byte
  unfold amanuensisref2_text.f at h
  split at h
  case isFalse => cases h
  case isTrue hsz =>
  have HR := Lib.hid (Option.some.inj h)
  clear h
  go_enter Try.func58, Try.ntmps58
  go_wp2_with (fail)
  go_loopw [2, 3, 4, 5, 6] (fun _ _ v i _ wr => ∃ (k : Nat) (acc : List UInt8), 1 ≤ k ∧ k ≤ a0.size + 1 ∧ acc.length < k ∧ i = .int .i64 k ∧ wr.ownsRow w.heap.size 5 1 v acc.length (Lib.byteCells acc) ∧ Below w.heap.size w wr ∧ Hid (textGo (a0.data.toList.drop k) k acc = textGo (a0.data.toList.drop 1) 1 [])) (fun _ _ _ i _ _ => a0.size + 1 - (intOf i).toNat)
  case atStart => exact ⟨1, [], by omega, by omega, by simp, rfl, ⟨by simp [Lib.byteCells], .inl ⟨rfl, rfl⟩⟩, Below.refl _ _, Lib.hid rfl⟩
  case round =>
    obtain ⟨k, acc, hk1, hk2, hacc, rfl, hB1, hb2, HI⟩ := hrel
    have hz : w.heap.size ≤ wr.heap.size := hb2.size
    obtain ⟨vA, vc, rfl⟩ := text_slice hB1
    by_cases hlt : k < a0.size
    · have HD := Lib.hid (text_drop_at a0 k hlt)
      have Out := fun (p2 : Int) (p1 : ByteArray) (x : Nat × List UInt8) (hx : textGo (a0.data.toList.drop k) k acc = x) (e2 : p2 = (x.1 : Int)) (e1 : p1 = ⟨x.2.toArray⟩) =>
        text_ret (show (p2, p1) = (r1, r2) by rw [← HR.out, ← HI.out, hx, e1, e2])
      have Hout := Lib.hid Out
      clear Out
      by_cases c34 : a0[k].toNat = 34
      · have t1 : (((a0[k]).toNat : Int) == 34) = true := beq_iff_eq.2 (by omega)
        by_cases hl : acc.length > 40
        · have HX := Lib.hid (show textGo (a0.data.toList.drop k) k acc = (0, []) by rw [HD.out]; exact textGo_long c34 hl)
          have t2 : decide (40 < (acc.length : Int)) = true := decide_eq_true (by omega)
          have t3 : decide (40 < acc.length) = true := decide_eq_true (by omega)
          clear c34 hl
          go_wp2
          go_ret2
          exact ⟨Hout.out _ _ _ HX.out rfl rfl, hb2⟩
        · have HX := Lib.hid (show textGo (a0.data.toList.drop k) k acc = (k + 1, acc) by rw [HD.out]; exact textGo_q c34 hl)
          have t2 : decide (40 < (acc.length : Int)) = false := decide_eq_false (by omega)
          have t3 : decide (40 < acc.length) = false := decide_eq_false (by omega)
          have hcv : ∀ W : World, Below wr.heap.size wr W → (convert 58 9 (.slice vA acc.length vc)).run Try.prog W = .ok (.string ⟨acc.toArray⟩) W := by
            intro W hW
            have := own_string (P := Try.prog) Try.underlying58 Try.underlying5 Try.underlying9 (w := W) (xs := acc.map fun c => (c.toNat : Int)) (by rw [← text_nums]; exact pw_own_below hB1 hW)
            rwa [text_strOf] at this
          have hcv0 := hcv wr (Below.refl _ _)
          have hcv1 := hcv wr.drew (Below.drew (Below.refl _ _))
          clear hcv
          clear c34 hl
          go_wp2
          go_region
          all_goals
            go_wp2
            go_ret2
            exact ⟨Hout.out _ _ _ HX.out rfl rfl, by first | exact hb2 | exact Below.drew hb2⟩
      · have t1 : (((a0[k]).toNat : Int) == 34) = false := beq_eq_false_iff_ne.2 (by omega)
        by_cases c92 : a0[k].toNat = 92
        · have t4 : (((a0[k]).toNat : Int) == 92) = true := beq_iff_eq.2 (by omega)
          by_cases hl2 : k + 1 < a0.size
          · have HD2 := Lib.hid (text_drop_at a0 (k + 1) hl2)
            by_cases cd : a0[k + 1].toNat = 34 ∨ a0[k + 1].toNat = 92
            · have HX := Lib.hid (show textGo (a0.data.toList.drop k) k acc = textGo (a0.data.toList.drop (k + 2)) (k + 2) (acc ++ [a0[k + 1]]) by rw [HD.out, HD2.out]; exact textGo_esc c92 cd)
              have t2 : decide (((a0[k + 1]).toNat : Int) < 32) = false := decide_eq_false (by omega)
              have t3 : decide (126 < ((a0[k + 1]).toNat : Int)) = false := decide_eq_false (by omega)
              have t56 : ((((a0[k + 1]).toNat : Int) != 34) = false) ∨ ((((a0[k + 1]).toNat : Int) != 34) = true ∧ (((a0[k + 1]).toNat : Int) != 92) = false) := by
                rcases cd with h | h
                · exact .inl (by simp [h])
                · exact .inr ⟨by rw [bne_iff_ne]; omega, by simp [h]⟩
              clear c34 c92 cd
              rcases t56 with t5 | ⟨t5, t6⟩
              all_goals
                go_wp2_with (at_builtin; refine wpList_append_own _ rfl _ _ 58 rfl w.heap.size 5 i0 (.int .u8 0) 1 1 Try.underlying58 hi hz0 hz1 hz2 rfl (by decide) _ _ _ rfl (hB1.alloc _) ⟨wr.heap.size, 0, none⟩ 1 1 [.int .u8 (a0[k + 1].toNat : Int)] rfl rfl ?_ ?_ ?_ ?_ ?_ ?_)
                · intro j u hj
                  match j, hj with
                  | 0, hj => simp at hj; subst hj; simp [Addr.add]
                · intro u hu; simp at hu; subst hu; rfl
                · unfold maxLen; omega
                · omega
                · simp; omega
                intro v' w2 hown' hgrow _
                rw [text_snoc] at hown'
                have hb3 : Below w.heap.size w w2 := (hb2.alloc hz _).grown hgrow (by simp; omega) (fun kk hkk => (hB1.lt kk hkk).1)
                clear hgrow
                go_wp2
                go_roundw
                case rel => exact ⟨k + 2, acc ++ [a0[k + 1]], by omega, by omega, by simp only [List.length_append, List.length_singleton]; omega, by go_num, by simpa using hown', hb3, Lib.hid (HX.out.symm.trans HI.out)⟩
                case measure => simp [intOf]; omega
            · have HX := Lib.hid (show textGo (a0.data.toList.drop k) k acc = (0, []) by rw [HD.out, HD2.out]; exact textGo_esc_no c92 cd)
              have t5 : (((a0[k + 1]).toNat : Int) != 34) = true := by rw [bne_iff_ne]; omega
              have t6 : (((a0[k + 1]).toNat : Int) != 92) = true := by rw [bne_iff_ne]; omega
              clear c34 c92 cd
              go_wp2
              go_ret2
              exact ⟨Hout.out _ _ _ HX.out rfl rfl, hb2⟩
          · have HX := Lib.hid (show textGo (a0.data.toList.drop k) k acc = (0, []) by rw [HD.out, text_drop_end a0 (k + 1) (by omega)]; exact textGo_esc_end c92)
            clear c34 c92
            go_wp2
            go_ret2
            exact ⟨Hout.out _ _ _ HX.out rfl rfl, hb2⟩
        · have t4 : (((a0[k]).toNat : Int) == 92) = false := beq_eq_false_iff_ne.2 (by omega)
          by_cases cb : a0[k].toNat < 32 ∨ 126 < a0[k].toNat
          · have HX := Lib.hid (show textGo (a0.data.toList.drop k) k acc = (0, []) by rw [HD.out]; exact textGo_bad c92 cb)
            clear c34 c92
            by_cases c32 : a0[k].toNat < 32
            · have t2 : decide (((a0[k]).toNat : Int) < 32) = true := decide_eq_true (by omega)
              clear cb c32
              go_wp2
              go_ret2
              exact ⟨Hout.out _ _ _ HX.out rfl rfl, hb2⟩
            · have t2 : decide (((a0[k]).toNat : Int) < 32) = false := decide_eq_false (by omega)
              have t3 : decide (126 < ((a0[k]).toNat : Int)) = true := decide_eq_true (by omega)
              clear cb c32
              go_wp2
              go_ret2
              exact ⟨Hout.out _ _ _ HX.out rfl rfl, hb2⟩
          · have t2 : decide (((a0[k]).toNat : Int) < 32) = false := decide_eq_false (by omega)
            have t3 : decide (126 < ((a0[k]).toNat : Int)) = false := decide_eq_false (by omega)
            have HX := Lib.hid (show textGo (a0.data.toList.drop k) k acc = textGo (a0.data.toList.drop (k + 1)) (k + 1) (acc ++ [a0[k]]) by rw [HD.out]; exact textGo_plain c34 c92 cb)
            clear c34 c92 cb
            go_wp2_with (at_builtin; refine wpList_append_own _ rfl _ _ 58 rfl w.heap.size 5 i0 (.int .u8 0) 1 1 Try.underlying58 hi hz0 hz1 hz2 rfl (by decide) _ _ _ rfl (hB1.alloc _) ⟨wr.heap.size, 0, none⟩ 1 1 [.int .u8 (a0[k].toNat : Int)] rfl rfl ?_ ?_ ?_ ?_ ?_ ?_)
            · intro j u hj
              match j, hj with
              | 0, hj => simp at hj; subst hj; simp [Addr.add]
            · intro u hu; simp at hu; subst hu; rfl
            · unfold maxLen; omega
            · omega
            · simp; omega
            intro v' w2 hown' hgrow _
            rw [text_snoc] at hown'
            have hb3 : Below w.heap.size w w2 := (hb2.alloc hz _).grown hgrow (by simp; omega) (fun kk hkk => (hB1.lt kk hkk).1)
            clear hgrow
            go_wp2
            go_roundw
            case rel => exact ⟨k + 1, acc ++ [a0[k]], by omega, by omega, by simp only [List.length_append, List.length_singleton]; omega, by go_num, by simpa using hown', hb3, Lib.hid (HX.out.symm.trans HI.out)⟩
            case measure => simp [intOf]; omega
    · have HX := Lib.hid (show textGo (a0.data.toList.drop k) k acc = (0, []) by rw [text_drop_end a0 k (by omega)]; rfl)
      have Hout := Lib.hid (text_ret (show ((0 : Int), (⟨#[]⟩ : ByteArray)) = (r1, r2) by rw [← HR.out, ← HI.out, HX.out]; rfl))
      go_wp2
      go_ret2
      exact ⟨Hout.out, hb2⟩

end Go.Proofs.Ytcombonfmhgnjaa.PLex
