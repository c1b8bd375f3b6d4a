-- printed by this session's program (over the kit's print) out of the translation; Lean checks it
import Derived.Test.YtcombonfmhgnjaaPLexx0
import Derived.Test.YtcombonfmhgnjaaPLexx7
namespace Go.Proofs.Ytcombonfmhgnjaa.PLex
open Go.RowKit Go.Proofs.YtcombonfmhgnjaaW.PrintWords Go.Proofs.YtcombonfmhgnjaaW.PrintLast Go.Proofs.YtcombonfmhgnjaaW.PrintMore
attribute [local go_sem] max2_int min2_int max_two min_two max_three min_three max_four min_four   -- for this text's walks alone
set_option linter.unusedVariables false
set_option linter.unusedSimpArgs false

/-! ### amanuensisref2_one: by hand: function 42 -/
theorem letter2_some (x : Int) : amanuensisref2_letter.f x = some ((amanuensisref2_letter.f x).getD false) := by
  have h : ∃ b, amanuensisref2_letter.f x = some b := by
    unfold amanuensisref2_letter.f
    repeat' split
    all_goals exact ⟨_, rfl⟩
  obtain ⟨b, h⟩ := h
  rw [h]; rfl
theorem digit2_some (x : Int) : amanuensisref2_digit.f x = some ((amanuensisref2_digit.f x).getD false) := by
  have h : ∃ b, amanuensisref2_digit.f x = some b := by
    unfold amanuensisref2_digit.f
    repeat' split
    all_goals exact ⟨_, rfl⟩
  obtain ⟨b, h⟩ := h
  rw [h]; rfl
def let2 (c : UInt8) : Bool := (amanuensisref2_letter.f (c.toNat : Int)).getD false
def dig2 (c : UInt8) : Bool := (amanuensisref2_digit.f (c.toNat : Int)).getD false
def word2 (c : UInt8) : Bool := let2 c || dig2 c
def runM (p : UInt8 → Bool) (l : List UInt8) : Nat := (l.takeWhile p).length
theorem runM_step {p : UInt8 → Bool} {s : ByteArray} {k : Nat} (h : k < s.size) (hp : p s[k] = true) : k + runM p (s.data.toList.drop k) = (k + 1) + runM p (s.data.toList.drop (k + 1)) := by
  rw [text_drop_at s k h, runM, List.takeWhile_cons_of_pos hp, List.length_cons, runM]; omega
theorem runM_stop {p : UInt8 → Bool} {s : ByteArray} {k : Nat} (h : k < s.size) (hp : p s[k] = false) : k + runM p (s.data.toList.drop k) = k := by
  rw [text_drop_at s k h, runM, List.takeWhile_cons_of_neg (by simp [hp])]; rfl
theorem runM_end {p : UInt8 → Bool} {s : ByteArray} {k : Nat} (h : s.size ≤ k) : k + runM p (s.data.toList.drop k) = k := by
  rw [text_drop_end s k h]; rfl
def signs2 : List Int := [33, 36, 40, 41, 58, 61, 64, 91, 93, 123, 125]
def signAt (j : Nat) : Int := signs2.getD j 0
def oneS (a0 : ByteArray) : Int :=
  if 2 < a0.size ∧ (a0.extract 0 3).toList = [46, 46, 46] then 3 else if bt a0 0 ∈ signs2 then 1 else 0
def oneN (k : Nat) (a0 : ByteArray) : Option Int :=
  (amanuensisref1_Int.f k (a0.extract 0 (1 + runM dig2 (a0.data.toList.drop 1)))).bind fun t => if t.2 = true then some ((1 + runM dig2 (a0.data.toList.drop 1) : Nat) : Int) else some 0
def amanuensisref2_one.f (k : Nat) (a0 : ByteArray) : Option Int :=
  if 0 < a0.size ∧ a0.size ≤ 9223372036854775807 then
    (if (amanuensisref2_letter.f (bt a0 0)).getD false = true then some (if runM word2 a0.data.toList > 12 then 0 else ((runM word2 a0.data.toList : Nat) : Int))
     else if bt a0 0 = 45 ∨ (amanuensisref2_digit.f (bt a0 0)).getD false = true then oneN k a0
     else if bt a0 0 = 34 then (amanuensisref2_text.f a0).bind fun t => some t.1
     else some (oneS a0))
  else none
theorem amanuensisref2_one.mono : ∀ a0 k, LeO (amanuensisref2_one.f k a0) (amanuensisref2_one.f (k + 1) a0) := by
  intro a0 k
  unfold amanuensisref2_one.f oneN
  refine LeO.ite ?_ (LeO.refl _)
  refine LeO.ite (LeO.refl _) (LeO.ite ?_ (LeO.refl _))
  exact LeO.bind (amanuensisref1_Int.mono _ _) fun _ => LeO.refl _
theorem one_ret {a b : Int} (h : a = b) : Ending.returned (.int .i64 a) = .returned (.int .i64 b) := by rw [h]
theorem one_trans {w w1 w2 : World} (h : Drawn0 w w1) (k : Drawn0 w1 w2) : Drawn0 w w2 := by
  obtain ⟨n, rfl⟩ := k; exact h.step n
theorem one_below {w w' : World} (h : Drawn0 w w') {w0 : World} (hb : Below w0.heap.size w0 w) : Below w0.heap.size w0 w' := by
  obtain ⟨n, rfl⟩ := h; exact pw_below_drewN hb n
set_option maxHeartbeats 8000000 in
set_option maxRecDepth 100000 in
theorem one_letter (a0 : ByteArray) (h0 : 0 < a0.size) (hs : a0.size ≤ 9223372036854775807) (hl : (amanuensisref2_letter.f (a0[0].toNat : Int)).getD false = true) (r : Int) (hr : (if runM word2 a0.data.toList > 12 then 0 else ((runM word2 a0.data.toList : Nat) : Int)) = r) (w : World) :
    Calls Try.prog 42 #[.string a0] w fun e w' => e = .returned (.int .i64 r) ∧ Below w.heap.size w w' := by
  have HL := Lib.hid (fun W => amanuensisref2_letter.calls (a0[0].toNat : Int) true W (by rw [letter2_some, hl]))
  have HR := Lib.hid hr
  clear hl hr
  go_enter Try.func42, Try.ntmps42
  go_wp2_with (fail)
  refine (HL.out _).mono ?_
  rintro e w1 ⟨rfl, hd1⟩
  go_wp2_with (fail)
  go_loopw [3] (fun i wr => ∃ k : Nat, k ≤ a0.size ∧ i = .int .i64 k ∧ Hid (k + runM word2 (a0.data.toList.drop k) = runM word2 a0.data.toList) ∧ Drawn0 w wr) (fun i _ => a0.size - (intOf i).toNat)
  case atStart => exact ⟨0, Nat.zero_le _, rfl, Lib.hid (by simp), hd1⟩
  case round =>
    obtain ⟨k, hk, rfl, HI, hdr⟩ := hrel
    by_cases hlt : k < a0.size
    · cases hc1 : let2 a0[k] with
      | true =>
        have HX := Lib.hid (runM_step (p := word2) hlt (by unfold word2; rw [hc1]; rfl))
        have HC := Lib.hid (fun W => amanuensisref2_letter.calls (a0[k].toNat : Int) true W (by rw [letter2_some]; exact congrArg some hc1))
        clear hc1
        go_wp2_with (fail)
        refine (HC.out _).mono ?_
        rintro e w2 ⟨rfl, hd2⟩
        go_wp2
        go_roundw
        case rel => exact ⟨k + 1, by omega, by go_num, Lib.hid (HX.out.symm.trans HI.out), one_trans hdr hd2⟩
        case measure => simp [intOf]; omega
      | false =>
        have HC := Lib.hid (fun W => amanuensisref2_letter.calls (a0[k].toNat : Int) false W (by rw [letter2_some]; exact congrArg some hc1))
        cases hc2 : dig2 a0[k] with
        | true =>
          have HX := Lib.hid (runM_step (p := word2) hlt (by unfold word2; rw [hc2, Bool.or_true]))
          have HD := Lib.hid (fun W => amanuensisref2_digit.calls (a0[k].toNat : Int) true W (by rw [digit2_some]; exact congrArg some hc2))
          clear hc1 hc2
          go_wp2_with (fail)
          refine (HC.out _).mono ?_
          rintro e w2 ⟨rfl, hd2⟩
          go_wp2_with (fail)
          refine (HD.out _).mono ?_
          rintro e w3 ⟨rfl, hd3⟩
          go_wp2
          go_roundw
          case rel => exact ⟨k + 1, by omega, by go_num, Lib.hid (HX.out.symm.trans HI.out), one_trans (one_trans hdr hd2) hd3⟩
          case measure => simp [intOf]; omega
        | false =>
          have hX := runM_stop (p := word2) hlt (by unfold word2; rw [hc1, hc2]; rfl)
          have HD := Lib.hid (fun W => amanuensisref2_digit.calls (a0[k].toNat : Int) false W (by rw [digit2_some]; exact congrArg some hc2))
          have hX2 := HI.out
          rw [hX] at hX2
          have hR := HR.out
          rw [← hX2] at hR
          clear hc1 hc2 hX hX2
          by_cases hn : k > 12
          · have t1 : decide (12 < (k : Int)) = true := decide_eq_true (by omega)
            have HO := Lib.hid (show 0 = r by rw [if_pos hn] at hR; exact hR)
            clear hR hn
            go_wp2_with (fail)
            refine (HC.out _).mono ?_
            rintro e w2 ⟨rfl, hd2⟩
            go_wp2_with (fail)
            refine (HD.out _).mono ?_
            rintro e w3 ⟨rfl, hd3⟩
            go_wp2
            go_ret
            exact ⟨one_ret HO.out, one_below (one_trans (one_trans hdr hd2) hd3) (Below.refl _ _)⟩
          · have t1 : decide (12 < (k : Int)) = false := decide_eq_false (by omega)
            have HO := Lib.hid (show (k : Int) = r by rw [if_neg hn] at hR; exact hR)
            clear hR hn
            go_wp2_with (fail)
            refine (HC.out _).mono ?_
            rintro e w2 ⟨rfl, hd2⟩
            go_wp2_with (fail)
            refine (HD.out _).mono ?_
            rintro e w3 ⟨rfl, hd3⟩
            go_wp2
            go_ret
            exact ⟨one_ret HO.out, one_below (one_trans (one_trans hdr hd2) hd3) (Below.refl _ _)⟩
    · have hX := runM_end (p := word2) (s := a0) (k := k) (by omega)
      have hX2 := HI.out
      rw [hX] at hX2
      have hR := HR.out
      rw [← hX2] at hR
      clear hX hX2
      by_cases hn : k > 12
      · have t1 : decide (12 < (k : Int)) = true := decide_eq_true (by omega)
        have HO := Lib.hid (show 0 = r by rw [if_pos hn] at hR; exact hR)
        clear hR hn
        go_wp2
        go_ret
        exact ⟨one_ret HO.out, one_below hdr (Below.refl _ _)⟩
      · have t1 : decide (12 < (k : Int)) = false := decide_eq_false (by omega)
        have HO := Lib.hid (show (k : Int) = r by rw [if_neg hn] at hR; exact hR)
        clear hR hn
        go_wp2
        go_ret
        exact ⟨one_ret HO.out, one_below hdr (Below.refl _ _)⟩
set_option maxHeartbeats 8000000 in
set_option maxRecDepth 100000 in
/-- from the digits' loop on -/
theorem one_number (kk : Nat) (a0 : ByteArray) (h0 : 0 < a0.size) (hs : a0.size ≤ 9223372036854775807) (hl : (amanuensisref2_letter.f (a0[0].toNat : Int)).getD false = false) (hd : (a0[0].toNat : Int) = 45 ∨ (amanuensisref2_digit.f (a0[0].toNat : Int)).getD false = true) (r : Int) (hr : oneN kk a0 = some r) (w : World) :
    Calls Try.prog 42 #[.string a0] w fun e w' => e = .returned (.int .i64 r) ∧ Below w.heap.size w w' := by
  have HL := Lib.hid (fun W => amanuensisref2_letter.calls (a0[0].toNat : Int) false W (by rw [letter2_some, hl]))
  obtain ⟨⟨x1, x2⟩, hN, hr⟩ := Option.bind_eq_some_iff.mp hr
  have HN := Lib.hid (fun W => amanuensisref1_Int.calls kk _ x1 x2 W hN)
  have HR := Lib.hid hr
  clear hl hN hr
  have hcase : (a0[0].toNat : Int) = 45 ∨ (¬ (a0[0].toNat : Int) = 45 ∧ (amanuensisref2_digit.f (a0[0].toNat : Int)).getD false = true) := by
    by_cases h : (a0[0].toNat : Int) = 45
    · exact .inl h
    · exact .inr ⟨h, hd.resolve_left h⟩
  clear hd
  go_enter Try.func42, Try.ntmps42
  go_wp2_with (fail)
  refine (HL.out _).mono ?_
  rintro e w1 ⟨rfl, hd1⟩
  rcases hcase with hm | ⟨hm, hdd⟩
  rotate_left
  · have t1 : ((a0[0].toNat : Int) == 45) = false := beq_eq_false_iff_ne.2 hm
    have HD := Lib.hid (fun W => amanuensisref2_digit.calls (a0[0].toNat : Int) true W (by rw [digit2_some, hdd]))
    clear hm hdd
    go_wp2_with (fail)
    refine (HD.out _).mono ?_
    rintro e w3 ⟨rfl, hd3⟩
    have hd1 := one_trans hd1 hd3
    go_wp2_with (fail)
    go_loopw [3] (fun i wr => ∃ k : Nat, 1 ≤ k ∧ k ≤ a0.size ∧ i = .int .i64 k ∧ Hid (k + runM dig2 (a0.data.toList.drop k) = 1 + runM dig2 (a0.data.toList.drop 1)) ∧ Drawn0 w wr) (fun i _ => a0.size - (intOf i).toNat)
    case atStart => exact ⟨1, by omega, by omega, rfl, Lib.hid rfl, hd1⟩
    case round =>
      obtain ⟨k, hk1, hk, rfl, HI, hdr⟩ := hrel
      by_cases hlt : k < a0.size
      · cases hc2 : dig2 a0[k] with
        | true =>
          have HX := Lib.hid (runM_step (p := dig2) hlt hc2)
          have HD2 := Lib.hid (fun W => amanuensisref2_digit.calls (a0[k].toNat : Int) true W (by rw [digit2_some]; exact congrArg some hc2))
          clear hc2
          go_wp2_with (fail)
          refine (HD2.out _).mono ?_
          rintro e w3 ⟨rfl, hd3⟩
          go_wp2
          go_roundw
          case rel => exact ⟨k + 1, by omega, by omega, by go_num, Lib.hid (HX.out.symm.trans HI.out), one_trans hdr hd3⟩
          case measure => simp [intOf]; omega
        | false =>
          have hX := runM_stop (p := dig2) hlt hc2
          have HD2 := Lib.hid (fun W => amanuensisref2_digit.calls (a0[k].toNat : Int) false W (by rw [digit2_some]; exact congrArg some hc2))
          have hX2 : 1 + runM dig2 (a0.data.toList.drop 1) = k := by rw [← HI.out, hX]
          have hN2 := HN.out
          have hR2 := HR.out
          rw [hX2] at hN2 hR2
          have HN2 := Lib.hid hN2
          clear hc2 hX hX2 hN2
          cases x2 with
          | true =>
            have HO := Lib.hid (show (k : Int) = r by simpa using hR2)
            clear hR2
            go_wp2_with (fail)
            refine (HD2.out _).mono ?_
            rintro e w3 ⟨rfl, hd3⟩
            go_wp2_with (fail)
            refine (HN2.out _).mono ?_
            rintro e w4 ⟨rfl, hd4⟩
            go_wp2
            go_ret
            exact ⟨one_ret HO.out, one_below (one_trans (one_trans hdr hd3) hd4) (Below.refl _ _)⟩
          | false =>
            have HO := Lib.hid (show 0 = r by simpa using hR2)
            clear hR2
            go_wp2_with (fail)
            refine (HD2.out _).mono ?_
            rintro e w3 ⟨rfl, hd3⟩
            go_wp2_with (fail)
            refine (HN2.out _).mono ?_
            rintro e w4 ⟨rfl, hd4⟩
            go_wp2
            go_ret
            exact ⟨one_ret HO.out, one_below (one_trans (one_trans hdr hd3) hd4) (Below.refl _ _)⟩
      · have hX := runM_end (p := dig2) (s := a0) (k := k) (by omega)
        have hX2 : 1 + runM dig2 (a0.data.toList.drop 1) = k := by rw [← HI.out, hX]
        have hN2 := HN.out
        have hR2 := HR.out
        rw [hX2] at hN2 hR2
        have HN2 := Lib.hid hN2
        clear hX hX2 hN2
        cases x2 with
        | true =>
          have HO := Lib.hid (show (k : Int) = r by simpa using hR2)
          clear hR2
          go_wp2_with (fail)
          refine (HN2.out _).mono ?_
          rintro e w4 ⟨rfl, hd4⟩
          go_wp2
          go_ret
          exact ⟨one_ret HO.out, one_below (one_trans hdr hd4) (Below.refl _ _)⟩
        | false =>
          have HO := Lib.hid (show 0 = r by simpa using hR2)
          clear hR2
          go_wp2_with (fail)
          refine (HN2.out _).mono ?_
          rintro e w4 ⟨rfl, hd4⟩
          go_wp2
          go_ret
          exact ⟨one_ret HO.out, one_below (one_trans hdr hd4) (Below.refl _ _)⟩
  · have t1 : ((a0[0].toNat : Int) == 45) = true := beq_iff_eq.2 hm
    clear hm
    go_wp2_with (fail)
    go_loopw [3] (fun i wr => ∃ k : Nat, 1 ≤ k ∧ k ≤ a0.size ∧ i = .int .i64 k ∧ Hid (k + runM dig2 (a0.data.toList.drop k) = 1 + runM dig2 (a0.data.toList.drop 1)) ∧ Drawn0 w wr) (fun i _ => a0.size - (intOf i).toNat)
    case atStart => exact ⟨1, by omega, by omega, rfl, Lib.hid rfl, hd1⟩
    case round =>
      obtain ⟨k, hk1, hk, rfl, HI, hdr⟩ := hrel
      by_cases hlt : k < a0.size
      · cases hc2 : dig2 a0[k] with
        | true =>
          have HX := Lib.hid (runM_step (p := dig2) hlt hc2)
          have HD2 := Lib.hid (fun W => amanuensisref2_digit.calls (a0[k].toNat : Int) true W (by rw [digit2_some]; exact congrArg some hc2))
          clear hc2
          go_wp2_with (fail)
          refine (HD2.out _).mono ?_
          rintro e w3 ⟨rfl, hd3⟩
          go_wp2
          go_roundw
          case rel => exact ⟨k + 1, by omega, by omega, by go_num, Lib.hid (HX.out.symm.trans HI.out), one_trans hdr hd3⟩
          case measure => simp [intOf]; omega
        | false =>
          have hX := runM_stop (p := dig2) hlt hc2
          have HD2 := Lib.hid (fun W => amanuensisref2_digit.calls (a0[k].toNat : Int) false W (by rw [digit2_some]; exact congrArg some hc2))
          have hX2 : 1 + runM dig2 (a0.data.toList.drop 1) = k := by rw [← HI.out, hX]
          have hN2 := HN.out
          have hR2 := HR.out
          rw [hX2] at hN2 hR2
          have HN2 := Lib.hid hN2
          clear hc2 hX hX2 hN2
          cases x2 with
          | true =>
            have HO := Lib.hid (show (k : Int) = r by simpa using hR2)
            clear hR2
            go_wp2_with (fail)
            refine (HD2.out _).mono ?_
            rintro e w3 ⟨rfl, hd3⟩
            go_wp2_with (fail)
            refine (HN2.out _).mono ?_
            rintro e w4 ⟨rfl, hd4⟩
            go_wp2
            go_ret
            exact ⟨one_ret HO.out, one_below (one_trans (one_trans hdr hd3) hd4) (Below.refl _ _)⟩
          | false =>
            have HO := Lib.hid (show 0 = r by simpa using hR2)
            clear hR2
            go_wp2_with (fail)
            refine (HD2.out _).mono ?_
            rintro e w3 ⟨rfl, hd3⟩
            go_wp2_with (fail)
            refine (HN2.out _).mono ?_
            rintro e w4 ⟨rfl, hd4⟩
            go_wp2
            go_ret
            exact ⟨one_ret HO.out, one_below (one_trans (one_trans hdr hd3) hd4) (Below.refl _ _)⟩
      · have hX := runM_end (p := dig2) (s := a0) (k := k) (by omega)
        have hX2 : 1 + runM dig2 (a0.data.toList.drop 1) = k := by rw [← HI.out, hX]
        have hN2 := HN.out
        have hR2 := HR.out
        rw [hX2] at hN2 hR2
        have HN2 := Lib.hid hN2
        clear hX hX2 hN2
        cases x2 with
        | true =>
          have HO := Lib.hid (show (k : Int) = r by simpa using hR2)
          clear hR2
          go_wp2_with (fail)
          refine (HN2.out _).mono ?_
          rintro e w4 ⟨rfl, hd4⟩
          go_wp2
          go_ret
          exact ⟨one_ret HO.out, one_below (one_trans hdr hd4) (Below.refl _ _)⟩
        | false =>
          have HO := Lib.hid (show 0 = r by simpa using hR2)
          clear hR2
          go_wp2_with (fail)
          refine (HN2.out _).mono ?_
          rintro e w4 ⟨rfl, hd4⟩
          go_wp2
          go_ret
          exact ⟨one_ret HO.out, one_below (one_trans hdr hd4) (Below.refl _ _)⟩
theorem one_mem (a0 : ByteArray) (h0 : 0 < a0.size) : bt a0 0 = (a0[0].toNat : Int) := by rw [← bt_at a0 0 h0]; rfl
set_option maxHeartbeats 8000000 in
set_option maxRecDepth 100000 in
theorem one_text (a0 : ByteArray) (h0 : 0 < a0.size) (hs : a0.size ≤ 9223372036854775807) (hl : (amanuensisref2_letter.f (a0[0].toNat : Int)).getD false = false) (hm : ¬ (a0[0].toNat : Int) = 45) (hd : (amanuensisref2_digit.f (a0[0].toNat : Int)).getD false = false) (hq : (a0[0].toNat : Int) = 34) (r : Int) (hr : ((amanuensisref2_text.f a0).bind fun t => some t.1) = some r) (w : World) :
    Calls Try.prog 42 #[.string a0] w fun e w' => e = .returned (.int .i64 r) ∧ Below w.heap.size w w' := by
  have HL := Lib.hid (fun W => amanuensisref2_letter.calls (a0[0].toNat : Int) false W (by rw [letter2_some, hl]))
  have t1 : ((a0[0].toNat : Int) == 45) = false := beq_eq_false_iff_ne.2 hm
  have t2 : ((a0[0].toNat : Int) == 34) = true := beq_iff_eq.2 hq
  have HD := Lib.hid (fun W => amanuensisref2_digit.calls (a0[0].toNat : Int) false W (by rw [digit2_some, hd]))
  obtain ⟨⟨x1, x2⟩, hN, hr⟩ := Option.bind_eq_some_iff.mp hr
  have HN := Lib.hid (fun W => amanuensisref2_text.calls a0 x1 x2 W hN)
  have HR := Lib.hid (Option.some.inj hr)
  clear hl hm hd hq hN hr
  go_enter Try.func42, Try.ntmps42
  go_wp2_with (fail)
  refine (HL.out _).mono ?_
  rintro e w1 ⟨rfl, hd1⟩
  go_wp2_with (fail)
  refine (HD.out _).mono ?_
  rintro e w2 ⟨rfl, hd2⟩
  go_wp2_with (fail)
  refine (HN.out _).mono ?_
  rintro e w3 ⟨rfl, hd3⟩
  go_wp2
  go_ret
  exact ⟨one_ret HR.out, below_then (one_below (one_trans hd1 hd2) (Below.refl _ _)) (one_below (one_trans hd1 hd2) (Below.refl _ _)).size hd3⟩
theorem signs_cell (W : World) (e : TypeId) (j : Nat) (hj : j < 11) :
    (W.alloc (.cells #[.int .u8 33, .int .u8 36, .int .u8 40, .int .u8 41, .int .u8 58, .int .u8 61, .int .u8 64, .int .u8 91, .int .u8 93, .int .u8 123, .int .u8 125] e (11, 12))).cell? ⟨W.heap.size, j, none⟩ = some (.int .u8 (signAt j)) := by
  rw [Lib.cell_of_heap (heap_alloc_new W _)]
  have : j = 0 ∨ j = 1 ∨ j = 2 ∨ j = 3 ∨ j = 4 ∨ j = 5 ∨ j = 6 ∨ j = 7 ∨ j = 8 ∨ j = 9 ∨ j = 10 := by omega
  rcases this with rfl | rfl | rfl | rfl | rfl | rfl | rfl | rfl | rfl | rfl | rfl <;> rfl
theorem signs_mem (c : Int) (k : Nat) (hk : k < 11) (hc : signAt k = c) : c ∈ signs2 := by
  have : k = 0 ∨ k = 1 ∨ k = 2 ∨ k = 3 ∨ k = 4 ∨ k = 5 ∨ k = 6 ∨ k = 7 ∨ k = 8 ∨ k = 9 ∨ k = 10 := by omega
  rcases this with rfl | rfl | rfl | rfl | rfl | rfl | rfl | rfl | rfl | rfl | rfl <;> (subst hc; decide)
theorem signs_not (c : Int) (h : ∀ j, j < 11 → signAt j ≠ c) : ¬ c ∈ signs2 := by
  intro hc
  obtain ⟨j, hj, e⟩ := List.getElem_of_mem hc
  exact h j hj (by unfold signAt; rw [List.getD_eq_getElem?_getD, List.getElem?_eq_getElem hj]; exact e)
set_option maxHeartbeats 8000000 in
set_option maxRecDepth 100000 in
theorem one_signs (a0 : ByteArray) (h0 : 0 < a0.size) (hs : a0.size ≤ 9223372036854775807) (hl : (amanuensisref2_letter.f (a0[0].toNat : Int)).getD false = false) (hm : ¬ (a0[0].toNat : Int) = 45) (hd : (amanuensisref2_digit.f (a0[0].toNat : Int)).getD false = false) (hq : ¬ (a0[0].toNat : Int) = 34) (r : Int) (hr : oneS a0 = r) (w : World) :
    Calls Try.prog 42 #[.string a0] w fun e w' => e = .returned (.int .i64 r) ∧ Below w.heap.size w w' := by
  have HL := Lib.hid (fun W => amanuensisref2_letter.calls (a0[0].toNat : Int) false W (by rw [letter2_some, hl]))
  have t1 : ((a0[0].toNat : Int) == 45) = false := beq_eq_false_iff_ne.2 hm
  have t2 : ((a0[0].toNat : Int) == 34) = false := beq_eq_false_iff_ne.2 hq
  have HD := Lib.hid (fun W => amanuensisref2_digit.calls (a0[0].toNat : Int) false W (by rw [digit2_some, hd]))
  have hr' := hr
  unfold oneS at hr'
  rw [one_mem a0 h0] at hr'
  clear hl hm hd hq hr
  have kc := fun (w : World) (C : Array Value) (n c : Nat) => Lib.run_convert_bytes_const (P := Try.prog) w 58 5 C n c Try.underlying58 Try.underlying5
  by_cases h2 : 2 < a0.size
  · have t3 : decide (2 < (a0.size : Int)) = true := decide_eq_true (by omega)
    by_cases h3 : (a0.extract 0 3).toList = [46, 46, 46]
    · have t4 : ((a0.extract 0 3).toList == [46, 46, 46]) = true := beq_iff_eq.2 h3
      have HO := Lib.hid (show 3 = r by rw [if_pos ⟨h2, h3⟩] at hr'; exact hr')
      clear hr' h3
      go_enter Try.func42, Try.ntmps42
      go_wp2_with (fail)
      refine (HL.out _).mono ?_
      rintro e w1 ⟨rfl, hd1⟩
      go_wp2_with (fail)
      refine (HD.out _).mono ?_
      rintro e w2 ⟨rfl, hd2⟩
      go_wp2
      go_ret
      exact ⟨one_ret HO.out, one_below (one_trans hd1 hd2) (Below.refl _ _)⟩
    · have t4 : ((a0.extract 0 3).toList == [46, 46, 46]) = false := beq_eq_false_iff_ne.2 h3
      have HR0 := Lib.hid (show ¬ (a0[0].toNat : Int) ∈ signs2 → 0 = r by intro h; rw [if_neg (fun x => h3 x.2), if_neg h] at hr'; exact hr')
      have HR1 := Lib.hid (show (a0[0].toNat : Int) ∈ signs2 → 1 = r by intro h; rw [if_neg (fun x => h3 x.2), if_pos h] at hr'; exact hr')
      clear hr' h3
      go_enter Try.func42, Try.ntmps42
      go_wp2_with (fail)
      refine (HL.out _).mono ?_
      rintro e w1 ⟨rfl, hd1⟩
      go_wp2_with (fail)
      refine (HD.out _).mono ?_
      rintro e w2 ⟨rfl, hd2⟩
      have hcells := signs_cell w2 5
      have hbel := (one_below (one_trans hd1 hd2) (Below.refl w.heap.size w)).alloc (one_below (one_trans hd1 hd2) (Below.refl _ _)).size (.cells #[.int .u8 33, .int .u8 36, .int .u8 40, .int .u8 41, .int .u8 58, .int .u8 61, .int .u8 64, .int .u8 91, .int .u8 93, .int .u8 123, .int .u8 125] 5 (11, 12))
      have HCL := Lib.hid hcells
      have HBL := Lib.hid hbel
      clear hcells hbel
      go_wp2
      have hcells := HCL.out
      have hbel := HBL.out
      generalize w2.heap.size = g at *
      go_loopw [85] (fun i wr => ∃ k : Nat, k ≤ 11 ∧ i = .int .i64 k ∧ Hid (∀ j, j < k → signAt j ≠ (a0[0].toNat : Int)) ∧ Hid (∀ j, j < 11 → wr.cell? ⟨g, j, none⟩ = some (.int .u8 (signAt j))) ∧ Below w.heap.size w wr) (fun i _ => 11 - (intOf i).toNat)
      case atStart => exact ⟨0, by omega, rfl, Lib.hid (fun j hj => absurd hj (by omega)), Lib.hid hcells, hbel⟩
      case round =>
        obtain ⟨k, hk, rfl, HI, HC, hbl⟩ := hrel
        by_cases hlt : k < 11
        · have hcell := HC.out k hlt
          by_cases he : signAt k = (a0[0].toNat : Int)
          · have HO := Lib.hid (HR1.out (signs_mem _ k hlt he))
            have t9 : ((signAt k) == (a0[0].toNat : Int)) = true := beq_iff_eq.2 he
            clear he
            have HT := t9
            go_wp2
            go_ret
            exact ⟨one_ret HO.out, hbl⟩
          · have t9 : ((signAt k) == (a0[0].toNat : Int)) = false := beq_eq_false_iff_ne.2 he
            have HNE := Lib.hid he
            clear he
            go_wp2
            go_roundw
            case rel => exact ⟨k + 1, by omega, by go_num, Lib.hid (fun j hj => by rcases Nat.lt_or_ge j k with h | h; exact HI.out j h; rw [show j = k by omega]; exact HNE.out), HC, hbl⟩
            case measure => simp [intOf]; omega
        · have HO := Lib.hid (HR0.out (signs_not _ (fun j hj => HI.out j (by omega))))
          go_wp2
          go_ret
          exact ⟨one_ret HO.out, hbl⟩
  · have t3 : decide (2 < (a0.size : Int)) = false := decide_eq_false (by omega)
    have HR0 := Lib.hid (show ¬ (a0[0].toNat : Int) ∈ signs2 → 0 = r by intro h; rw [if_neg (fun x => h2 x.1), if_neg h] at hr'; exact hr')
    have HR1 := Lib.hid (show (a0[0].toNat : Int) ∈ signs2 → 1 = r by intro h; rw [if_neg (fun x => h2 x.1), if_pos h] at hr'; exact hr')
    clear hr'
    go_enter Try.func42, Try.ntmps42
    go_wp2_with (fail)
    refine (HL.out _).mono ?_
    rintro e w1 ⟨rfl, hd1⟩
    go_wp2_with (fail)
    refine (HD.out _).mono ?_
    rintro e w2 ⟨rfl, hd2⟩
    have hcells := signs_cell w2 5
    have hbel := (one_below (one_trans hd1 hd2) (Below.refl w.heap.size w)).alloc (one_below (one_trans hd1 hd2) (Below.refl _ _)).size (.cells #[.int .u8 33, .int .u8 36, .int .u8 40, .int .u8 41, .int .u8 58, .int .u8 61, .int .u8 64, .int .u8 91, .int .u8 93, .int .u8 123, .int .u8 125] 5 (11, 12))
    have HCL := Lib.hid hcells
    have HBL := Lib.hid hbel
    clear hcells hbel
    go_wp2
    have hcells := HCL.out
    have hbel := HBL.out
    generalize w2.heap.size = g at *
    go_loopw [85] (fun i wr => ∃ k : Nat, k ≤ 11 ∧ i = .int .i64 k ∧ Hid (∀ j, j < k → signAt j ≠ (a0[0].toNat : Int)) ∧ Hid (∀ j, j < 11 → wr.cell? ⟨g, j, none⟩ = some (.int .u8 (signAt j))) ∧ Below w.heap.size w wr) (fun i _ => 11 - (intOf i).toNat)
    case atStart => exact ⟨0, by omega, rfl, Lib.hid (fun j hj => absurd hj (by omega)), Lib.hid hcells, hbel⟩
    case round =>
      obtain ⟨k, hk, rfl, HI, HC, hbl⟩ := hrel
      by_cases hlt : k < 11
      · have hcell := HC.out k hlt
        by_cases he : signAt k = (a0[0].toNat : Int)
        · have HO := Lib.hid (HR1.out (signs_mem _ k hlt he))
          have t9 : ((signAt k) == (a0[0].toNat : Int)) = true := beq_iff_eq.2 he
          clear he
          have HT := t9
          go_wp2
          go_ret
          exact ⟨one_ret HO.out, hbl⟩
        · have t9 : ((signAt k) == (a0[0].toNat : Int)) = false := beq_eq_false_iff_ne.2 he
          have HNE := Lib.hid he
          clear he
          go_wp2
          go_roundw
          case rel => exact ⟨k + 1, by omega, by go_num, Lib.hid (fun j hj => by rcases Nat.lt_or_ge j k with h | h; exact HI.out j h; rw [show j = k by omega]; exact HNE.out), HC, hbl⟩
          case measure => simp [intOf]; omega
      · have HO := Lib.hid (HR0.out (signs_not _ (fun j hj => HI.out j (by omega))))
        go_wp2
        go_ret
        exact ⟨one_ret HO.out, hbl⟩
theorem amanuensisref2_one.calls (k : Nat) (a0 : ByteArray) (r : Int) (w : World) (h : amanuensisref2_one.f k a0 = some r) :
    Calls Try.prog 42 #[.string a0] w fun e w' => e = .returned (.int .i64 r) ∧ Below w.heap.size w w' := by
  unfold amanuensisref2_one.f at h
  split at h
  case isFalse => cases h
  case isTrue hh =>
  obtain ⟨h0, hs⟩ := hh
  rw [one_mem a0 h0] at h
  split at h
  case isTrue hl => exact one_letter a0 h0 hs hl r (Option.some.inj h) w
  case isFalse hl =>
    have hl' : (amanuensisref2_letter.f (a0[0].toNat : Int)).getD false = false := by simpa using hl
    split at h
    case isTrue hd => exact one_number k a0 h0 hs hl' hd r h w
    case isFalse hd =>
      rw [not_or] at hd
      split at h
      case isTrue hq => exact one_text a0 h0 hs hl' hd.1 (by simpa using hd.2) hq r h w
      case isFalse hq => exact one_signs a0 h0 hs hl' hd.1 (by simpa using hd.2) hq r (Option.some.inj h) w

end Go.Proofs.Ytcombonfmhgnjaa.PLex
