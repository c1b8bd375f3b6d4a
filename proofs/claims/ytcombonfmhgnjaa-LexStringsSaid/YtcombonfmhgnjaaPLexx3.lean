-- printed by this session's program (over the kit's print) out of the translation; Lean checks it
import Derived.Test.YtcombonfmhgnjaaPLexx0
import Derived.Test.YtcombonfmhgnjaaPLexx2
namespace Go.Proofs.Ytcombonfmhgnjaa.PLex
open Go.RowKit Go.Proofs.YtcombonfmhgnjaaW.PrintWords Go.Proofs.YtcombonfmhgnjaaW.PrintLast Go.Proofs.YtcombonfmhgnjaaW.PrintMore
attribute [local go_sem] max2_int min2_int max_two min_two max_three min_three max_four min_four   -- for this text's walks alone
set_option linter.unusedVariables false
set_option linter.unusedSimpArgs false

/-! ### json_Number: by hand: function 38 -/
def numD (c : UInt8) : Bool := decide (48 ≤ c.toNat) && decide (c.toNat ≤ 57)
def numStep (n : Nat) (c : UInt8) : Nat := if n ≤ 1073741824 then n * 10 + (c.toNat - 48) else n
def numTake (l : List UInt8) : List UInt8 := l.takeWhile numD
def numVal (l : List UInt8) (n : Nat) : Nat := (numTake l).foldl numStep n
def numNeg (s : ByteArray) : Bool := Lib.hasPrefix s.data.toList [45]
def numRes (neg : Bool) (D : List UInt8) (n : Nat) : Int × Int × Bool :=
  if D.length = 0 ∨ n > 1073741824 ∨ (D.head? = some 48 ∧ (D.length > 1 ∨ neg = true)) then (0, ((if neg then 1 else 0) + D.length : Nat), false)
  else ((if neg then -(n : Int) else n), ((if neg then 1 else 0) + D.length : Nat), true)
def json_Number.f (a0 : ByteArray) : Option (Int × Int × Bool) :=
  if a0.size ≤ 140737488355328 then
    (let l := a0.data.toList.drop (if numNeg a0 then 1 else 0)
     some (numRes (numNeg a0) (numTake l) (numVal l 0))) else none
theorem num_drop_at (s : ByteArray) (k : Nat) (h : k < s.size) : s.data.toList.drop k = s[k] :: s.data.toList.drop (k + 1) := by
  rw [List.drop_eq_getElem_cons (by simpa using h)]; rfl
theorem num_drop_end (s : ByteArray) (k : Nat) (h : s.size ≤ k) : s.data.toList.drop k = [] := List.drop_of_length_le (by rw [Array.length_toList]; exact h)
theorem num_le (n : Nat) (c : UInt8) (hc : numD c = true) (h : n ≤ 10737418249) : numStep n c ≤ 10737418249 := by
  unfold numD at hc; simp at hc; unfold numStep; split <;> omega
theorem num_neg_head (s : ByteArray) (h : numNeg s = true) : ∃ h0 : 0 < s.size, s[0].toNat = 45 := by
  unfold numNeg at h
  by_cases h0 : 0 < s.size
  · refine ⟨h0, ?_⟩
    have hd := num_drop_at s 0 h0
    rw [List.drop_zero] at hd
    rw [hd] at h
    simp [Lib.hasPrefix] at h
    rw [← h]; rfl
  · have hd := num_drop_end s 0 (by omega)
    rw [List.drop_zero] at hd
    rw [hd] at h
    simp [Lib.hasPrefix] at h
theorem num_len_le (s : ByteArray) (k : Nat) : (numTake (s.data.toList.drop k)).length ≤ s.size - k := by
  have h1 := (List.takeWhile_prefix (p := numD) (l := s.data.toList.drop k)).length_le
  rw [List.length_drop, Array.length_toList] at h1; exact h1
theorem num_head (s : ByteArray) (k : Nat) (h : (numTake (s.data.toList.drop k)).length ≠ 0) : ∃ hk : k < s.size, (numTake (s.data.toList.drop k)).head? = some s[k] := by
  by_cases hk : k < s.size
  · refine ⟨hk, ?_⟩
    rw [num_drop_at s k hk] at h ⊢
    unfold numTake at h ⊢
    by_cases hd : numD s[k] = true
    · rw [List.takeWhile_cons_of_pos hd]; rfl
    · rw [List.takeWhile_cons_of_neg hd] at h; exact absurd rfl h
  · rw [num_drop_end s k (by omega)] at h; exact absurd rfl h
theorem num_ret {a a' b b' : Int} {c c' : Bool} (h : (a, b, c) = (a', b', c')) : Ending.returned (.tuple #[.int .i64 a, .int .i64 b, .bool c]) = .returned (.tuple #[.int .i64 a', .int .i64 b', .bool c']) := by
  injection h with h1 h2; injection h2 with h2 h3; rw [h1, h2, h3]
theorem num_trans {w w1 w2 : World} (h : Drawn0 w w1) (k : Drawn0 w1 w2) : Drawn0 w w2 := by
  obtain ⟨n, rfl⟩ := k; exact h.step n
theorem num_digit_f (c : UInt8) : json_digit.f (c.toNat : Int) = some (numD c) := by
  unfold json_digit.f numD
  by_cases h1 : 48 ≤ c.toNat <;> by_cases h2 : c.toNat ≤ 57
  · rw [if_pos (by omega)]; simp [h1, h2]; omega
  · rw [if_pos (by omega)]; simp [h1, h2]; omega
  · rw [if_neg (by omega)]; simp [h1]
  · rw [if_neg (by omega)]; simp [h1]
set_option maxHeartbeats 8000000 in
set_option maxRecDepth 100000 in
theorem num_pos (a0 : ByteArray) (hsz : a0.size ≤ 140737488355328) (hn : numNeg a0 = false) (w : World) (r1 r2 : Int) (r3 : Bool)
    (hr : numRes false (numTake (a0.data.toList.drop 0)) (numVal (a0.data.toList.drop 0) 0) = (r1, r2, r3)) :
    Calls Try.prog 38 #[.string a0] w fun e w' => e = .returned (.tuple #[.int .i64 r1, .int .i64 r2, .bool r3]) ∧ Drawn0 w w' := by
  have HR := Lib.hid hr
  have HP := Lib.hid (Try.strings_HasPrefix a0 (⟨#[45]⟩ : ByteArray) w)
  have HN := Lib.hid (show Lib.hasPrefix a0.data.toList (⟨#[45]⟩ : ByteArray).data.toList = false from hn)
  clear hr hn
  go_enter Try.func38, Try.ntmps38
  go_wp2_with (fail)
  refine HP.out.mono ?_
  rw [HN.out]
  rintro e w2 ⟨rfl, hw2⟩
  obtain rfl : w = w2 := hw2.symm
  go_wp2_with (fail)
  go_loopw [2, 3] (fun v i wr => ∃ (k n : Nat), 0 ≤ k ∧ k ≤ a0.size ∧ n ≤ 10737418249 ∧ i = .int .i64 k ∧ v = .int .i64 n ∧ Drawn0 w wr ∧ Hid (numVal (a0.data.toList.drop k) n = numVal (a0.data.toList.drop 0) 0) ∧ Hid (k + (numTake (a0.data.toList.drop k)).length = 0 + (numTake (a0.data.toList.drop 0)).length)) (fun _ i _ => a0.size - (intOf i).toNat)
  case atStart => exact ⟨0, 0, by omega, by omega, by omega, rfl, rfl, Drawn0.refl _, Lib.hid rfl, Lib.hid rfl⟩
  case round =>
    obtain ⟨k, n, hk0, hk, hnb, rfl, rfl, hdr, HV, HL⟩ := hrel
    by_cases hgo : ∃ h : k < a0.size, numD a0[k] = true
    · obtain ⟨hlt, hd⟩ := hgo
      have HD := Lib.hid (fun W => json_digit.calls (a0[k].toNat : Int) true W (by rw [num_digit_f, hd]))
      have hd1 : 48 ≤ a0[k].toNat ∧ a0[k].toNat ≤ 57 := by simpa [numD] using hd
      have b1 : (48 : Int) ≤ (a0[k].toNat : Int) := by omega
      have b2 : (a0[k].toNat : Int) ≤ 57 := by omega
      have HT := Lib.hid (show numTake (a0.data.toList.drop k) = a0[k] :: numTake (a0.data.toList.drop (k + 1)) by
        rw [num_drop_at a0 k hlt]; unfold numTake; rw [List.takeWhile_cons_of_pos hd])
      have HV2 := Lib.hid (show numVal (a0.data.toList.drop (k + 1)) (numStep n a0[k]) = numVal (a0.data.toList.drop 0) 0 by
        rw [← HV.out]; unfold numVal; rw [HT.out]; rfl)
      have HL2 := Lib.hid (show k + 1 + (numTake (a0.data.toList.drop (k + 1))).length = 0 + (numTake (a0.data.toList.drop 0)).length by
        rw [← HL.out, HT.out, List.length_cons]; omega)
      have hnb2 := num_le n a0[k] hd hnb
      have HNB := Lib.hid hnb2
      clear hd hnb2
      by_cases hn : n ≤ 1073741824
      · have HS := Lib.hid (show numStep n a0[k] = n * 10 + (a0[k].toNat - 48) from if_pos hn)
        have t1 : decide ((n : Int) ≤ 1073741824) = true := decide_eq_true (by omega)
        go_wp2_with (fail)
        refine (HD.out _).mono ?_
        rintro e w3 ⟨rfl, hd3⟩
        go_wp2
        go_roundw
        case rel => exact ⟨k + 1, numStep n a0[k], by omega, by omega, HNB.out, by go_num, by rw [HS.out]; go_num, num_trans hdr hd3, HV2, HL2⟩
        case measure => simp [intOf]; omega
      · have HS := Lib.hid (show numStep n a0[k] = n from if_neg hn)
        have t1 : decide ((n : Int) ≤ 1073741824) = false := decide_eq_false (by omega)
        go_wp2_with (fail)
        refine (HD.out _).mono ?_
        rintro e w3 ⟨rfl, hd3⟩
        go_wp2
        go_roundw
        case rel => exact ⟨k + 1, numStep n a0[k], by omega, by omega, HNB.out, by go_num, by rw [HS.out], num_trans hdr hd3, HV2, HL2⟩
        case measure => simp [intOf]; omega
    · have hT : numTake (a0.data.toList.drop k) = [] := by
        by_cases hlt : k < a0.size
        · rw [num_drop_at a0 k hlt]; unfold numTake; rw [List.takeWhile_cons_of_neg (fun h => hgo ⟨hlt, h⟩)]
        · rw [num_drop_end a0 k (by omega)]; rfl
      have hV : numVal (a0.data.toList.drop 0) 0 = n := by rw [← HV.out]; unfold numVal; rw [hT]; rfl
      have hL : 0 + (numTake (a0.data.toList.drop 0)).length = k := by rw [← HL.out, hT]; rfl
      have hH := num_head a0 0
      have hle := num_len_le a0 0
      have hres := HR.out
      rw [hV] at hres
      generalize numTake (a0.data.toList.drop 0) = D at hres hL hH hle
      clear HV HL HR hT hV
      have HX : ∀ (x1 x2 : Int) (x3 : Bool), numRes false D n = (x1, x2, x3) → Ending.returned (.tuple #[.int .i64 x1, .int .i64 x2, .bool x3]) = .returned (.tuple #[.int .i64 r1, .int .i64 r2, .bool r3]) := fun x1 x2 x3 h => num_ret (h.symm.trans hres)
      have Hout := Lib.hid HX
      clear HX hres
      by_cases hlt : k < a0.size
      · have hd : numD a0[k] = false := by
          cases h : numD a0[k] with
          | false => rfl
          | true => exact absurd ⟨hlt, h⟩ hgo
        have HDG := Lib.hid (fun W => json_digit.calls (a0[k].toNat : Int) false W (by rw [num_digit_f, hd]))
        clear hd hgo
        by_cases c0 : D.length = 0
        · have ek : k = 0 := by omega
          subst ek
          have HO := Lib.hid (Hout.out 0 0 false (by unfold numRes; rw [if_pos (.inl c0)]; simp [c0]))
          clear hL hH hle c0
          go_wp2_with (fail)
          refine (HDG.out _).mono ?_
          rintro e w3 ⟨rfl, hd3⟩
          go_wp2
          go_ret3
          exact ⟨HO.out, num_trans hdr hd3⟩
        · obtain ⟨hs1, hh⟩ := hH c0
          have t1 : (((k : Int) - 0) == 0) = false := beq_eq_false_iff_ne.2 (by omega)
          have t1' : ((k : Int) == 0) = false := beq_eq_false_iff_ne.2 (by omega)
          by_cases cn : n > 1073741824
          · have t2 : decide (1073741824 < (n : Int)) = true := decide_eq_true (by omega)
            have HO := Lib.hid (Hout.out 0 k false (by unfold numRes; rw [if_pos (.inr (.inl cn))]; simp; omega))
            clear hL hle c0 cn hh
            go_wp2_with (fail)
            refine (HDG.out _).mono ?_
            rintro e w3 ⟨rfl, hd3⟩
            go_wp2
            go_ret3
            exact ⟨HO.out, num_trans hdr hd3⟩
          · have t2 : decide (1073741824 < (n : Int)) = false := decide_eq_false (by omega)
            by_cases c48 : a0[0].toNat = 48
            · have hh2 : D.head? = some 48 := by rw [hh]; exact congrArg some (by apply UInt8.toNat_inj.mp; simpa using c48)
              have t3 : ((a0[0].toNat : Int) == 48) = true := beq_iff_eq.2 (by omega)
              by_cases c1 : D.length > 1
              · have t4 : decide (1 < ((k : Int) - 0)) = true := decide_eq_true (by omega)
                have t4' : decide (1 < (k : Int)) = true := decide_eq_true (by omega)
                have HO := Lib.hid (Hout.out 0 k false (by unfold numRes; rw [if_pos (.inr (.inr ⟨hh2, .inl c1⟩))]; simp; omega))
                clear hL hle c0 cn hh c48 hh2 c1
                go_wp2_with (fail)
                refine (HDG.out _).mono ?_
                rintro e w3 ⟨rfl, hd3⟩
                go_wp2
                go_ret3
                exact ⟨HO.out, num_trans hdr hd3⟩
              · have t4 : decide (1 < ((k : Int) - 0)) = false := decide_eq_false (by omega)
                have t4' : decide (1 < (k : Int)) = false := decide_eq_false (by omega)
                have HO := Lib.hid (Hout.out (n : Int) k true (by unfold numRes; rw [if_neg (by rintro (h | h | ⟨_, h | h⟩) <;> first | omega | cases h)]; simp; omega))
                clear hL hle c0 cn hh c48 hh2 c1
                go_wp2_with (fail)
                refine (HDG.out _).mono ?_
                rintro e w3 ⟨rfl, hd3⟩
                go_wp2
                go_ret3
                exact ⟨HO.out, num_trans hdr hd3⟩
            · have hh2 : ¬ D.head? = some 48 := by rw [hh]; intro h; apply c48; rw [Option.some.inj h]; rfl
              have t3 : ((a0[0].toNat : Int) == 48) = false := beq_eq_false_iff_ne.2 (by omega)
              have HO := Lib.hid (Hout.out (n : Int) k true (by unfold numRes; rw [if_neg (by rintro (h | h | ⟨h, _⟩) <;> first | omega | exact hh2 h)]; simp; omega))
              clear hL hle c0 cn hh c48 hh2
              go_wp2_with (fail)
              refine (HDG.out _).mono ?_
              rintro e w3 ⟨rfl, hd3⟩
              go_wp2
              go_ret3
              exact ⟨HO.out, num_trans hdr hd3⟩
      · clear hgo
        by_cases c0 : D.length = 0
        · have ek : k = 0 := by omega
          subst ek
          have HO := Lib.hid (Hout.out 0 0 false (by unfold numRes; rw [if_pos (.inl c0)]; simp [c0]))
          clear hL hH hle c0
          go_wp2
          go_ret3
          exact ⟨HO.out, hdr⟩
        · obtain ⟨hs1, hh⟩ := hH c0
          have t1 : (((k : Int) - 0) == 0) = false := beq_eq_false_iff_ne.2 (by omega)
          have t1' : ((k : Int) == 0) = false := beq_eq_false_iff_ne.2 (by omega)
          by_cases cn : n > 1073741824
          · have t2 : decide (1073741824 < (n : Int)) = true := decide_eq_true (by omega)
            have HO := Lib.hid (Hout.out 0 k false (by unfold numRes; rw [if_pos (.inr (.inl cn))]; simp; omega))
            clear hL hle c0 cn hh
            go_wp2
            go_ret3
            exact ⟨HO.out, hdr⟩
          · have t2 : decide (1073741824 < (n : Int)) = false := decide_eq_false (by omega)
            by_cases c48 : a0[0].toNat = 48
            · have hh2 : D.head? = some 48 := by rw [hh]; exact congrArg some (by apply UInt8.toNat_inj.mp; simpa using c48)
              have t3 : ((a0[0].toNat : Int) == 48) = true := beq_iff_eq.2 (by omega)
              by_cases c1 : D.length > 1
              · have t4 : decide (1 < ((k : Int) - 0)) = true := decide_eq_true (by omega)
                have t4' : decide (1 < (k : Int)) = true := decide_eq_true (by omega)
                have HO := Lib.hid (Hout.out 0 k false (by unfold numRes; rw [if_pos (.inr (.inr ⟨hh2, .inl c1⟩))]; simp; omega))
                clear hL hle c0 cn hh c48 hh2 c1
                go_wp2
                go_ret3
                exact ⟨HO.out, hdr⟩
              · have t4 : decide (1 < ((k : Int) - 0)) = false := decide_eq_false (by omega)
                have t4' : decide (1 < (k : Int)) = false := decide_eq_false (by omega)
                have HO := Lib.hid (Hout.out (n : Int) k true (by unfold numRes; rw [if_neg (by rintro (h | h | ⟨_, h | h⟩) <;> first | omega | cases h)]; simp; omega))
                clear hL hle c0 cn hh c48 hh2 c1
                go_wp2
                go_ret3
                exact ⟨HO.out, hdr⟩
            · have hh2 : ¬ D.head? = some 48 := by rw [hh]; intro h; apply c48; rw [Option.some.inj h]; rfl
              have t3 : ((a0[0].toNat : Int) == 48) = false := beq_eq_false_iff_ne.2 (by omega)
              have HO := Lib.hid (Hout.out (n : Int) k true (by unfold numRes; rw [if_neg (by rintro (h | h | ⟨h, _⟩) <;> first | omega | exact hh2 h)]; simp; omega))
              clear hL hle c0 cn hh c48 hh2
              go_wp2
              go_ret3
              exact ⟨HO.out, hdr⟩
set_option maxHeartbeats 8000000 in
set_option maxRecDepth 100000 in
theorem num_neg (a0 : ByteArray) (hsz : a0.size ≤ 140737488355328) (hn : numNeg a0 = true) (w : World) (r1 r2 : Int) (r3 : Bool)
    (hr : numRes true (numTake (a0.data.toList.drop 1)) (numVal (a0.data.toList.drop 1) 0) = (r1, r2, r3)) :
    Calls Try.prog 38 #[.string a0] w fun e w' => e = .returned (.tuple #[.int .i64 r1, .int .i64 r2, .bool r3]) ∧ Drawn0 w w' := by
  have HR := Lib.hid hr
  have HP := Lib.hid (Try.strings_HasPrefix a0 (⟨#[45]⟩ : ByteArray) w)
  have HN := Lib.hid (show Lib.hasPrefix a0.data.toList (⟨#[45]⟩ : ByteArray).data.toList = true from hn)
  obtain ⟨hs0, _⟩ := num_neg_head a0 hn
  clear hr hn
  go_enter Try.func38, Try.ntmps38
  go_wp2_with (fail)
  refine HP.out.mono ?_
  rw [HN.out]
  rintro e w2 ⟨rfl, hw2⟩
  obtain rfl : w = w2 := hw2.symm
  go_wp2_with (fail)
  go_loopw [2, 3] (fun v i wr => ∃ (k n : Nat), 1 ≤ k ∧ k ≤ a0.size ∧ n ≤ 10737418249 ∧ i = .int .i64 k ∧ v = .int .i64 n ∧ Drawn0 w wr ∧ Hid (numVal (a0.data.toList.drop k) n = numVal (a0.data.toList.drop 1) 0) ∧ Hid (k + (numTake (a0.data.toList.drop k)).length = 1 + (numTake (a0.data.toList.drop 1)).length)) (fun _ i _ => a0.size - (intOf i).toNat)
  case atStart => exact ⟨1, 0, by omega, by omega, by omega, rfl, rfl, Drawn0.refl _, Lib.hid rfl, Lib.hid rfl⟩
  case round =>
    obtain ⟨k, n, hk0, hk, hnb, rfl, rfl, hdr, HV, HL⟩ := hrel
    by_cases hgo : ∃ h : k < a0.size, numD a0[k] = true
    · obtain ⟨hlt, hd⟩ := hgo
      have HD := Lib.hid (fun W => json_digit.calls (a0[k].toNat : Int) true W (by rw [num_digit_f, hd]))
      have hd1 : 48 ≤ a0[k].toNat ∧ a0[k].toNat ≤ 57 := by simpa [numD] using hd
      have b1 : (48 : Int) ≤ (a0[k].toNat : Int) := by omega
      have b2 : (a0[k].toNat : Int) ≤ 57 := by omega
      have HT := Lib.hid (show numTake (a0.data.toList.drop k) = a0[k] :: numTake (a0.data.toList.drop (k + 1)) by
        rw [num_drop_at a0 k hlt]; unfold numTake; rw [List.takeWhile_cons_of_pos hd])
      have HV2 := Lib.hid (show numVal (a0.data.toList.drop (k + 1)) (numStep n a0[k]) = numVal (a0.data.toList.drop 1) 0 by
        rw [← HV.out]; unfold numVal; rw [HT.out]; rfl)
      have HL2 := Lib.hid (show k + 1 + (numTake (a0.data.toList.drop (k + 1))).length = 1 + (numTake (a0.data.toList.drop 1)).length by
        rw [← HL.out, HT.out, List.length_cons]; omega)
      have hnb2 := num_le n a0[k] hd hnb
      have HNB := Lib.hid hnb2
      clear hd hnb2
      by_cases hn : n ≤ 1073741824
      · have HS := Lib.hid (show numStep n a0[k] = n * 10 + (a0[k].toNat - 48) from if_pos hn)
        have t1 : decide ((n : Int) ≤ 1073741824) = true := decide_eq_true (by omega)
        go_wp2_with (fail)
        refine (HD.out _).mono ?_
        rintro e w3 ⟨rfl, hd3⟩
        go_wp2
        go_roundw
        case rel => exact ⟨k + 1, numStep n a0[k], by omega, by omega, HNB.out, by go_num, by rw [HS.out]; go_num, num_trans hdr hd3, HV2, HL2⟩
        case measure => simp [intOf]; omega
      · have HS := Lib.hid (show numStep n a0[k] = n from if_neg hn)
        have t1 : decide ((n : Int) ≤ 1073741824) = false := decide_eq_false (by omega)
        go_wp2_with (fail)
        refine (HD.out _).mono ?_
        rintro e w3 ⟨rfl, hd3⟩
        go_wp2
        go_roundw
        case rel => exact ⟨k + 1, numStep n a0[k], by omega, by omega, HNB.out, by go_num, by rw [HS.out], num_trans hdr hd3, HV2, HL2⟩
        case measure => simp [intOf]; omega
    · have hT : numTake (a0.data.toList.drop k) = [] := by
        by_cases hlt : k < a0.size
        · rw [num_drop_at a0 k hlt]; unfold numTake; rw [List.takeWhile_cons_of_neg (fun h => hgo ⟨hlt, h⟩)]
        · rw [num_drop_end a0 k (by omega)]; rfl
      have hV : numVal (a0.data.toList.drop 1) 0 = n := by rw [← HV.out]; unfold numVal; rw [hT]; rfl
      have hL : 1 + (numTake (a0.data.toList.drop 1)).length = k := by rw [← HL.out, hT]; rfl
      have hH := num_head a0 1
      have hle := num_len_le a0 1
      have hres := HR.out
      rw [hV] at hres
      generalize numTake (a0.data.toList.drop 1) = D at hres hL hH hle
      clear HV HL HR hT hV
      have HX : ∀ (x1 x2 : Int) (x3 : Bool), numRes true D n = (x1, x2, x3) → Ending.returned (.tuple #[.int .i64 x1, .int .i64 x2, .bool x3]) = .returned (.tuple #[.int .i64 r1, .int .i64 r2, .bool r3]) := fun x1 x2 x3 h => num_ret (h.symm.trans hres)
      have Hout := Lib.hid HX
      clear HX hres
      by_cases hlt : k < a0.size
      · have hd : numD a0[k] = false := by
          cases h : numD a0[k] with
          | false => rfl
          | true => exact absurd ⟨hlt, h⟩ hgo
        have HDG := Lib.hid (fun W => json_digit.calls (a0[k].toNat : Int) false W (by rw [num_digit_f, hd]))
        clear hd hgo
        by_cases c0 : D.length = 0
        · have ek : k = 1 := by omega
          subst ek
          have HO := Lib.hid (Hout.out 0 1 false (by unfold numRes; rw [if_pos (.inl c0)]; simp [c0]))
          clear hL hH hle c0
          go_wp2_with (fail)
          refine (HDG.out _).mono ?_
          rintro e w3 ⟨rfl, hd3⟩
          go_wp2
          go_ret3
          exact ⟨HO.out, num_trans hdr hd3⟩
        · obtain ⟨hs1, hh⟩ := hH c0
          have t1 : (((k : Int) - 1) == 0) = false := beq_eq_false_iff_ne.2 (by omega)
          have t1' : ((k : Int) == 1) = false := beq_eq_false_iff_ne.2 (by omega)
          have ei1 : (k : Int) - ((k : Int) - 1) = 1 := by omega
          have ei2 : k - (k - 1) = 1 := by omega
          by_cases cn : n > 1073741824
          · have t2 : decide (1073741824 < (n : Int)) = true := decide_eq_true (by omega)
            have HO := Lib.hid (Hout.out 0 k false (by unfold numRes; rw [if_pos (.inr (.inl cn))]; simp; omega))
            clear hL hle c0 cn hh
            go_wp2_with (fail)
            refine (HDG.out _).mono ?_
            rintro e w3 ⟨rfl, hd3⟩
            go_wp2
            go_ret3
            exact ⟨HO.out, num_trans hdr hd3⟩
          · have t2 : decide (1073741824 < (n : Int)) = false := decide_eq_false (by omega)
            by_cases c48 : a0[1].toNat = 48
            · have hh2 : D.head? = some 48 := by rw [hh]; exact congrArg some (by apply UInt8.toNat_inj.mp; simpa using c48)
              have t3 : ((a0[1].toNat : Int) == 48) = true := beq_iff_eq.2 (by omega)
              by_cases c1 : D.length > 1
              · have t4 : decide (1 < ((k : Int) - 1)) = true := decide_eq_true (by omega)
                have t4' : decide (2 < (k : Int)) = true := decide_eq_true (by omega)
                have HO := Lib.hid (Hout.out 0 k false (by unfold numRes; rw [if_pos (.inr (.inr ⟨hh2, .inl c1⟩))]; simp; omega))
                clear hL hle c0 cn hh c48 hh2 c1
                go_wp2_with (fail)
                refine (HDG.out _).mono ?_
                rintro e w3 ⟨rfl, hd3⟩
                go_wp2
                go_ret3
                exact ⟨HO.out, num_trans hdr hd3⟩
              · have t4 : decide (1 < ((k : Int) - 1)) = false := decide_eq_false (by omega)
                have t4' : decide (2 < (k : Int)) = false := decide_eq_false (by omega)
                have HO := Lib.hid (Hout.out 0 k false (by unfold numRes; rw [if_pos (.inr (.inr ⟨hh2, .inr rfl⟩))]; simp; omega))
                clear hL hle c0 cn hh c48 hh2 c1
                go_wp2_with (fail)
                refine (HDG.out _).mono ?_
                rintro e w3 ⟨rfl, hd3⟩
                go_wp2
                go_ret3
                exact ⟨HO.out, num_trans hdr hd3⟩
            · have hh2 : ¬ D.head? = some 48 := by rw [hh]; intro h; apply c48; rw [Option.some.inj h]; rfl
              have t3 : ((a0[1].toNat : Int) == 48) = false := beq_eq_false_iff_ne.2 (by omega)
              have HO := Lib.hid (Hout.out (-(n : Int)) k true (by unfold numRes; rw [if_neg (by rintro (h | h | ⟨h, _⟩) <;> first | omega | exact hh2 h)]; simp; omega))
              clear hL hle c0 cn hh c48 hh2
              go_wp2_with (fail)
              refine (HDG.out _).mono ?_
              rintro e w3 ⟨rfl, hd3⟩
              go_wp2
              go_ret3
              exact ⟨HO.out, num_trans hdr hd3⟩
      · clear hgo
        by_cases c0 : D.length = 0
        · have ek : k = 1 := by omega
          subst ek
          have HO := Lib.hid (Hout.out 0 1 false (by unfold numRes; rw [if_pos (.inl c0)]; simp [c0]))
          clear hL hH hle c0
          go_wp2
          go_ret3
          exact ⟨HO.out, hdr⟩
        · obtain ⟨hs1, hh⟩ := hH c0
          have t1 : (((k : Int) - 1) == 0) = false := beq_eq_false_iff_ne.2 (by omega)
          have t1' : ((k : Int) == 1) = false := beq_eq_false_iff_ne.2 (by omega)
          have ei1 : (k : Int) - ((k : Int) - 1) = 1 := by omega
          have ei2 : k - (k - 1) = 1 := by omega
          by_cases cn : n > 1073741824
          · have t2 : decide (1073741824 < (n : Int)) = true := decide_eq_true (by omega)
            have HO := Lib.hid (Hout.out 0 k false (by unfold numRes; rw [if_pos (.inr (.inl cn))]; simp; omega))
            clear hL hle c0 cn hh
            go_wp2
            go_ret3
            exact ⟨HO.out, hdr⟩
          · have t2 : decide (1073741824 < (n : Int)) = false := decide_eq_false (by omega)
            by_cases c48 : a0[1].toNat = 48
            · have hh2 : D.head? = some 48 := by rw [hh]; exact congrArg some (by apply UInt8.toNat_inj.mp; simpa using c48)
              have t3 : ((a0[1].toNat : Int) == 48) = true := beq_iff_eq.2 (by omega)
              by_cases c1 : D.length > 1
              · have t4 : decide (1 < ((k : Int) - 1)) = true := decide_eq_true (by omega)
                have t4' : decide (2 < (k : Int)) = true := decide_eq_true (by omega)
                have HO := Lib.hid (Hout.out 0 k false (by unfold numRes; rw [if_pos (.inr (.inr ⟨hh2, .inl c1⟩))]; simp; omega))
                clear hL hle c0 cn hh c48 hh2 c1
                go_wp2
                go_ret3
                exact ⟨HO.out, hdr⟩
              · have t4 : decide (1 < ((k : Int) - 1)) = false := decide_eq_false (by omega)
                have t4' : decide (2 < (k : Int)) = false := decide_eq_false (by omega)
                have HO := Lib.hid (Hout.out 0 k false (by unfold numRes; rw [if_pos (.inr (.inr ⟨hh2, .inr rfl⟩))]; simp; omega))
                clear hL hle c0 cn hh c48 hh2 c1
                go_wp2
                go_ret3
                exact ⟨HO.out, hdr⟩
            · have hh2 : ¬ D.head? = some 48 := by rw [hh]; intro h; apply c48; rw [Option.some.inj h]; rfl
              have t3 : ((a0[1].toNat : Int) == 48) = false := beq_eq_false_iff_ne.2 (by omega)
              have HO := Lib.hid (Hout.out (-(n : Int)) k true (by unfold numRes; rw [if_neg (by rintro (h | h | ⟨h, _⟩) <;> first | omega | exact hh2 h)]; simp; omega))
              clear hL hle c0 cn hh c48 hh2
              go_wp2
              go_ret3
              exact ⟨HO.out, hdr⟩
theorem json_Number.calls (a0 : ByteArray) (r1 : Int) (r2 : Int) (r3 : Bool) (w : World) (h : json_Number.f a0 = some (r1, r2, r3)) :
    Calls Try.prog 38 #[.string a0] w fun e w' => e = .returned (.tuple #[.int .i64 r1, .int .i64 r2, .bool r3]) ∧ Drawn0 w w' := by
  unfold json_Number.f at h
  split at h
  case isFalse => cases h
  case isTrue hsz =>
  have h := Option.some.inj h
  cases hn : numNeg a0 with
  | true => exact num_neg a0 hsz hn w r1 r2 r3 (by rw [hn] at h; exact h)
  | false => exact num_pos a0 hsz hn w r1 r2 r3 (by rw [hn] at h; exact h)

-- NOT PRINTED: function 63 (bytealg_IndexByteString)

-- NOT PRINTED: function 54 (stringslite_IndexByte)

/-! ### strings_IndexByte: by hand: function 40 -/
def strings_IndexByte.f (a0 : ByteArray) (a1 : Int) : Option Int := some (Lib.indexByte a0.data.toList a1.toNat.toUInt8)
theorem strings_IndexByte.calls (a0 : ByteArray) (a1 : Int) (r : Int) (w : World) (h : strings_IndexByte.f a0 a1 = some r) :
    Calls Try.prog 40 #[.string a0, .int .u8 a1] w fun e w' => e = .returned (.int .i64 r) ∧ Drawn0 w w' := by
  obtain rfl := Option.some.inj h
  refine (Try.strings_IndexByte a0 a1 w).mono ?_
  rintro e w' ⟨rfl, rfl⟩
  exact ⟨rfl, Drawn0.refl _⟩

/-! ### lex_size: by hand: function 20 -/
theorem letter_some (x : Int) : lex_letter.f x = some ((lex_letter.f x).getD false) := by
  have h : ∃ b, lex_letter.f x = some b := by
    unfold lex_letter.f
    repeat' split
    all_goals exact ⟨_, rfl⟩
  obtain ⟨b, h⟩ := h
  rw [h]; rfl
theorem digit_some (x : Int) : lex_digit.f x = some ((lex_digit.f x).getD false) := by
  have h : ∃ b, lex_digit.f x = some b := by
    unfold lex_digit.f
    repeat' split
    all_goals exact ⟨_, rfl⟩
  obtain ⟨b, h⟩ := h
  rw [h]; rfl
def wordB (c : UInt8) : Bool := (lex_letter.f (c.toNat : Int)).getD false || (lex_digit.f (c.toNat : Int)).getD false
set_option maxHeartbeats 1000000 in
theorem size_word (c : UInt8) (W : World) : Calls Try.prog 36 #[.int .u8 (c.toNat : Int)] W fun e w' => e = .returned (.bool (wordB c)) ∧ Drawn0 W w' := by
  cases h1 : (lex_letter.f (c.toNat : Int)).getD false with
  | true =>
    have HX := Lib.hid (show wordB c = true by unfold wordB; rw [h1]; rfl)
    have HC := fun W => lex_letter.calls (c.toNat : Int) true W (by rw [letter_some, h1])
    have HCC := Lib.hid HC
    clear h1 HC
    go_enter Try.func36, Try.ntmps36
    go_wp2_with (fail)
    refine (HCC.out _).mono ?_
    rintro e w2 ⟨rfl, hd2⟩
    go_wp2
    go_ret
    exact ⟨run_retb HX.out.symm, hd2⟩
  | false =>
    have HX := Lib.hid (show wordB c = (lex_digit.f (c.toNat : Int)).getD false by unfold wordB; rw [h1]; rfl)
    have HC := fun W => lex_letter.calls (c.toNat : Int) false W (by rw [letter_some, h1])
    have HCC := Lib.hid HC
    have HD := Lib.hid (fun W => lex_digit.calls (c.toNat : Int) _ W (digit_some _))
    clear h1 HC
    go_enter Try.func36, Try.ntmps36
    go_wp2_with (fail)
    refine (HCC.out _).mono ?_
    rintro e w2 ⟨rfl, hd2⟩
    go_wp2_with (fail)
    refine (HD.out _).mono ?_
    rintro e w3 ⟨rfl, hd3⟩
    go_wp2
    go_ret
    exact ⟨run_retb HX.out.symm, drawn_trans hd2 hd3⟩
def sizeS (a0 : ByteArray) (c : Int) : Option Int :=
  if c = 34 then (json_String.f a0).bind fun t => (if t.2.2 = true ∧ (t.1.size : Int) ≤ 40 then some t.2.1 else some 0)
  else (strings_HasPrefix.f a0 (⟨#[46, 46, 46]⟩ : ByteArray)).bind fun t => if t = true then some 3 else
    (strings_IndexByte.f (⟨#[33, 36, 40, 41, 58, 61, 64, 91, 93, 123, 125]⟩ : ByteArray) c).bind fun t => if t ≥ 0 then some 1 else some 0
def sizeN (k : Nat) (a0 : ByteArray) : Option Int := (json_Number.f a0).bind fun t => if t.2.2 = true then some t.2.1 else some 0
def lex_size.f (k : Nat) (a0 : ByteArray) : Option Int :=
  if 0 < a0.size ∧ a0.size ≤ 9223372036854775807 then
    (if (lex_letter.f (bt a0 0)).getD false = true then some (if runL wordB a0.data.toList > 12 then 0 else ((runL wordB a0.data.toList : Nat) : Int))
     else if bt a0 0 = 45 ∨ (lex_digit.f (bt a0 0)).getD false = true then sizeN k a0 else sizeS a0 (bt a0 0))
  else none
theorem lex_size.mono : ∀ a0 k, LeO (lex_size.f k a0) (lex_size.f (k + 1) a0) := by
  intro a0 k
  unfold lex_size.f sizeN
  refine LeO.ite ?_ (LeO.refl _)
  refine LeO.ite (LeO.refl _) (LeO.ite ?_ (LeO.refl _))
  exact LeO.bind (LeO.refl _) fun _ => LeO.refl _
theorem drawn_below {w w' : World} (h : Drawn0 w w') {w0 : World} (hb : Below w0.heap.size w0 w) : Below w0.heap.size w0 w' := by
  obtain ⟨n, rfl⟩ := h; exact pw_below_drewN hb n
theorem below_more {w0 w w' : World} (hb : Below w0.heap.size w0 w) (h : Below w.heap.size w w') : Below w0.heap.size w0 w' := below_then hb hb.size h
set_option maxHeartbeats 4000000 in
theorem size_letter (a0 : ByteArray) (h0 : 0 < a0.size) (hs : a0.size ≤ 9223372036854775807) (hl : (lex_letter.f (a0[0].toNat : Int)).getD false = true) (r : Int) (hr : (if runL wordB a0.data.toList > 12 then 0 else ((runL wordB a0.data.toList : Nat) : Int)) = r) (w : World) :
    Calls Try.prog 20 #[.string a0] w fun e w' => e = .returned (.int .i64 r) ∧ Below w.heap.size w w' := by
  have HL := Lib.hid (fun W => lex_letter.calls (a0[0].toNat : Int) true W (by rw [letter_some, hl]))
  have HRN := Lib.hid (fun W => run_of 36 wordB (enters_of Try.func36 (by kernel_rfl) rfl) size_word a0 hs W)
  clear hl
  by_cases hn : runL wordB a0.data.toList > 12
  · have HR := Lib.hid (show 0 = r by rw [← hr, if_pos hn])
    have t1 : decide (12 < ((runL wordB a0.data.toList : Nat) : Int)) = true := decide_eq_true (by omega)
    clear hr hn
    go_enter Try.func20, Try.ntmps20
    go_wp2_with (fail)
    refine (HL.out _).mono ?_
    rintro e w2 ⟨rfl, hd2⟩
    go_wp2_with (fail)
    refine (HRN.out _).mono ?_
    rintro e w3 ⟨rfl, hd3⟩
    go_wp2
    go_ret
    exact ⟨run_ret HR.out, drawn_below (drawn_trans hd2 hd3) (Below.refl _ _)⟩
  · have HR := Lib.hid (show ((runL wordB a0.data.toList : Nat) : Int) = r by rw [← hr, if_neg hn])
    have t1 : decide (12 < ((runL wordB a0.data.toList : Nat) : Int)) = false := decide_eq_false (by omega)
    clear hr hn
    go_enter Try.func20, Try.ntmps20
    go_wp2_with (fail)
    refine (HL.out _).mono ?_
    rintro e w2 ⟨rfl, hd2⟩
    go_wp2_with (fail)
    refine (HRN.out _).mono ?_
    rintro e w3 ⟨rfl, hd3⟩
    go_wp2
    go_ret
    exact ⟨run_ret HR.out, drawn_below (drawn_trans hd2 hd3) (Below.refl _ _)⟩
set_option maxHeartbeats 4000000 in
theorem size_number (k : Nat) (a0 : ByteArray) (h0 : 0 < a0.size) (hs : a0.size ≤ 9223372036854775807) (hl : (lex_letter.f (a0[0].toNat : Int)).getD false = false) (hd : (a0[0].toNat : Int) = 45 ∨ (lex_digit.f (a0[0].toNat : Int)).getD false = true) (r : Int) (hr : sizeN k a0 = some r) (w : World) :
    Calls Try.prog 20 #[.string a0] w fun e w' => e = .returned (.int .i64 r) ∧ Below w.heap.size w w' := by
  have HL := Lib.hid (fun W => lex_letter.calls (a0[0].toNat : Int) false W (by rw [letter_some, hl]))
  obtain ⟨⟨x1, x2, x3⟩, hN, hr⟩ := Option.bind_eq_some_iff.mp hr
  have HN := Lib.hid (fun W => json_Number.calls a0 x1 x2 x3 W hN)
  clear hl hN
  by_cases hm : (a0[0].toNat : Int) = 45
  · have t1 : ((a0[0].toNat : Int) == 45) = true := beq_iff_eq.2 hm
    clear hm hd
    cases x3 with
    | true =>
      have HR := Lib.hid (show x2 = r from by simpa using hr)
      clear hr
      go_enter Try.func20, Try.ntmps20
      go_wp2_with (fail)
      refine (HL.out _).mono ?_
      rintro e w2 ⟨rfl, hd2⟩
      go_wp2_with (fail)
      refine (HN.out _).mono ?_
      rintro e w3 ⟨rfl, hd3⟩
      go_wp2
      go_ret
      exact ⟨run_ret HR.out, drawn_below (drawn_trans hd2 hd3) (Below.refl _ _)⟩
    | false =>
      have HR := Lib.hid (show 0 = r from by simpa using hr)
      clear hr
      go_enter Try.func20, Try.ntmps20
      go_wp2_with (fail)
      refine (HL.out _).mono ?_
      rintro e w2 ⟨rfl, hd2⟩
      go_wp2_with (fail)
      refine (HN.out _).mono ?_
      rintro e w3 ⟨rfl, hd3⟩
      go_wp2
      go_ret
      exact ⟨run_ret HR.out, drawn_below (drawn_trans hd2 hd3) (Below.refl _ _)⟩
  · have t1 : ((a0[0].toNat : Int) == 45) = false := beq_eq_false_iff_ne.2 hm
    have hd' : (lex_digit.f (a0[0].toNat : Int)).getD false = true := by
      rcases hd with h | h
      · exact absurd h hm
      · exact h
    have HD := Lib.hid (fun W => lex_digit.calls (a0[0].toNat : Int) true W (by rw [digit_some, hd']))
    clear hm hd hd'
    cases x3 with
    | true =>
      have HR := Lib.hid (show x2 = r from by simpa using hr)
      clear hr
      go_enter Try.func20, Try.ntmps20
      go_wp2_with (fail)
      refine (HL.out _).mono ?_
      rintro e w2 ⟨rfl, hd2⟩
      go_wp2_with (fail)
      refine (HD.out _).mono ?_
      rintro e w4 ⟨rfl, hd4⟩
      go_wp2_with (fail)
      refine (HN.out _).mono ?_
      rintro e w3 ⟨rfl, hd3⟩
      go_wp2
      go_ret
      exact ⟨run_ret HR.out, drawn_below (drawn_trans (drawn_trans hd2 hd4) hd3) (Below.refl _ _)⟩
    | false =>
      have HR := Lib.hid (show 0 = r from by simpa using hr)
      clear hr
      go_enter Try.func20, Try.ntmps20
      go_wp2_with (fail)
      refine (HL.out _).mono ?_
      rintro e w2 ⟨rfl, hd2⟩
      go_wp2_with (fail)
      refine (HD.out _).mono ?_
      rintro e w4 ⟨rfl, hd4⟩
      go_wp2_with (fail)
      refine (HN.out _).mono ?_
      rintro e w3 ⟨rfl, hd3⟩
      go_wp2
      go_ret
      exact ⟨run_ret HR.out, drawn_below (drawn_trans (drawn_trans hd2 hd4) hd3) (Below.refl _ _)⟩
set_option maxHeartbeats 4000000 in
theorem size_rest (a0 : ByteArray) (h0 : 0 < a0.size) (hs : a0.size ≤ 9223372036854775807) (hl : (lex_letter.f (a0[0].toNat : Int)).getD false = false) (hm : ¬ (a0[0].toNat : Int) = 45) (hd : (lex_digit.f (a0[0].toNat : Int)).getD false = false) (r : Int) (hr : sizeS a0 (a0[0].toNat : Int) = some r) (w : World) :
    Calls Try.prog 20 #[.string a0] w fun e w' => e = .returned (.int .i64 r) ∧ Below w.heap.size w w' := by
  have HL := Lib.hid (fun W => lex_letter.calls (a0[0].toNat : Int) false W (by rw [letter_some, hl]))
  have t1 : ((a0[0].toNat : Int) == 45) = false := beq_eq_false_iff_ne.2 hm
  have HD := Lib.hid (fun W => lex_digit.calls (a0[0].toNat : Int) false W (by rw [digit_some, hd]))
  clear hl hm hd
  by_cases hq : (a0[0].toNat : Int) = 34
  · have t2 : ((a0[0].toNat : Int) == 34) = true := beq_iff_eq.2 hq
    unfold sizeS at hr
    rw [if_pos hq] at hr
    obtain ⟨⟨x1, x2, x3⟩, hN, hr⟩ := Option.bind_eq_some_iff.mp hr
    have HN := Lib.hid (fun W => json_String.calls a0 x1 x2 x3 W hN)
    clear hq hN
    cases x3 with
    | true =>
      by_cases hn : (x1.size : Int) ≤ 40
      · have HR := Lib.hid (show x2 = r from by simpa [hn] using hr)
        have t3 : decide ((x1.size : Int) ≤ 40) = true := decide_eq_true hn
        clear hr hn
        go_enter Try.func20, Try.ntmps20
        go_wp2_with (fail)
        refine (HL.out _).mono ?_
        rintro e w2 ⟨rfl, hd2⟩
        go_wp2_with (fail)
        refine (HD.out _).mono ?_
        rintro e w4 ⟨rfl, hd4⟩
        go_wp2_with (fail)
        refine (HN.out _).mono ?_
        rintro e w3 ⟨rfl, hd3⟩
        go_wp2
        go_ret
        exact ⟨run_ret HR.out, below_more (drawn_below (drawn_trans hd2 hd4) (Below.refl _ _)) hd3⟩
      · have HR := Lib.hid (show 0 = r from by simpa [hn] using hr)
        have t3 : decide ((x1.size : Int) ≤ 40) = false := decide_eq_false hn
        clear hr hn
        go_enter Try.func20, Try.ntmps20
        go_wp2_with (fail)
        refine (HL.out _).mono ?_
        rintro e w2 ⟨rfl, hd2⟩
        go_wp2_with (fail)
        refine (HD.out _).mono ?_
        rintro e w4 ⟨rfl, hd4⟩
        go_wp2_with (fail)
        refine (HN.out _).mono ?_
        rintro e w3 ⟨rfl, hd3⟩
        go_wp2
        go_ret
        exact ⟨run_ret HR.out, below_more (drawn_below (drawn_trans hd2 hd4) (Below.refl _ _)) hd3⟩
    | false =>
      have HR := Lib.hid (show 0 = r from by simpa using hr)
      clear hr
      go_enter Try.func20, Try.ntmps20
      go_wp2_with (fail)
      refine (HL.out _).mono ?_
      rintro e w2 ⟨rfl, hd2⟩
      go_wp2_with (fail)
      refine (HD.out _).mono ?_
      rintro e w4 ⟨rfl, hd4⟩
      go_wp2_with (fail)
      refine (HN.out _).mono ?_
      rintro e w3 ⟨rfl, hd3⟩
      go_wp2
      go_ret
      exact ⟨run_ret HR.out, below_more (drawn_below (drawn_trans hd2 hd4) (Below.refl _ _)) hd3⟩
  · have t2 : ((a0[0].toNat : Int) == 34) = false := beq_eq_false_iff_ne.2 hq
    unfold sizeS at hr
    rw [if_neg hq] at hr
    obtain ⟨x, hN, hr⟩ := Option.bind_eq_some_iff.mp hr
    have HN := Lib.hid (fun W => strings_HasPrefix.calls a0 (⟨#[46, 46, 46]⟩ : ByteArray) x W hN)
    clear hq hN
    cases x with
    | true =>
      have HR := Lib.hid (show 3 = r from by simpa using hr)
      clear hr
      go_enter Try.func20, Try.ntmps20
      go_wp2_with (fail)
      refine (HL.out _).mono ?_
      rintro e w2 ⟨rfl, hd2⟩
      go_wp2_with (fail)
      refine (HD.out _).mono ?_
      rintro e w4 ⟨rfl, hd4⟩
      go_wp2_with (fail)
      refine (HN.out _).mono ?_
      rintro e w3 ⟨rfl, hd3⟩
      go_wp2
      go_ret
      exact ⟨run_ret HR.out, drawn_below (drawn_trans (drawn_trans hd2 hd4) hd3) (Below.refl _ _)⟩
    | false =>
      obtain ⟨y, hI, hr⟩ := Option.bind_eq_some_iff.mp (show _ = some r from by simpa using hr)
      have HI := Lib.hid (fun W => strings_IndexByte.calls (⟨#[33, 36, 40, 41, 58, 61, 64, 91, 93, 123, 125]⟩ : ByteArray) (a0[0].toNat : Int) y W hI)
      clear hI
      by_cases hy : y ≥ 0
      · have HR := Lib.hid (show 1 = r from by simpa [hy] using hr)
        have t3 : decide (0 ≤ y) = true := decide_eq_true hy
        clear hr hy
        go_enter Try.func20, Try.ntmps20
        go_wp2_with (fail)
        refine (HL.out _).mono ?_
        rintro e w2 ⟨rfl, hd2⟩
        go_wp2_with (fail)
        refine (HD.out _).mono ?_
        rintro e w4 ⟨rfl, hd4⟩
        go_wp2_with (fail)
        refine (HN.out _).mono ?_
        rintro e w3 ⟨rfl, hd3⟩
        go_wp2_with (fail)
        refine (HI.out _).mono ?_
        rintro e w5 ⟨rfl, hd5⟩
        go_wp2
        go_ret
        exact ⟨run_ret HR.out, drawn_below (drawn_trans (drawn_trans (drawn_trans hd2 hd4) hd3) hd5) (Below.refl _ _)⟩
      · have HR := Lib.hid (show 0 = r from by simpa [hy] using hr)
        have t3 : decide (0 ≤ y) = false := decide_eq_false hy
        clear hr hy
        go_enter Try.func20, Try.ntmps20
        go_wp2_with (fail)
        refine (HL.out _).mono ?_
        rintro e w2 ⟨rfl, hd2⟩
        go_wp2_with (fail)
        refine (HD.out _).mono ?_
        rintro e w4 ⟨rfl, hd4⟩
        go_wp2_with (fail)
        refine (HN.out _).mono ?_
        rintro e w3 ⟨rfl, hd3⟩
        go_wp2_with (fail)
        refine (HI.out _).mono ?_
        rintro e w5 ⟨rfl, hd5⟩
        go_wp2
        go_ret
        exact ⟨run_ret HR.out, drawn_below (drawn_trans (drawn_trans (drawn_trans hd2 hd4) hd3) hd5) (Below.refl _ _)⟩
theorem lex_size.calls (k : Nat) (a0 : ByteArray) (r : Int) (w : World) (h : lex_size.f k a0 = some r) :
    Calls Try.prog 20 #[.string a0] w fun e w' => e = .returned (.int .i64 r) ∧ Below w.heap.size w w' := by
  unfold lex_size.f at h
  split at h
  case isFalse => cases h
  case isTrue hh =>
  obtain ⟨h0, hs⟩ := hh
  have hb : bt a0 0 = (a0[0].toNat : Int) := by rw [← bt_at a0 0 h0]; rfl
  rw [hb] at h
  split at h
  case isTrue hl => exact size_letter a0 h0 hs hl r (Option.some.inj h) w
  case isFalse hl =>
    have hl' : (lex_letter.f (a0[0].toNat : Int)).getD false = false := by simpa using hl
    split at h
    case isTrue hd => exact size_number k a0 h0 hs hl' hd r h w
    case isFalse hd =>
      rw [not_or] at hd
      exact size_rest a0 h0 hs hl' hd.1 (by simpa using hd.2) r h w

/-! ### lex_one: function 30 -/
def lex_one.f (k : Nat) (a0 : ByteArray) : Option (Bool) := if a0.toList = ([] : List UInt8) then (some false) else ((lex_size.f k a0).bind fun t107 => (some (t107 == (a0.size : Int))))
theorem lex_one.mono : ∀ a0 k, LeO (lex_one.f k a0) (lex_one.f (k + 1) a0) := by
  intro a0 k
  unfold lex_one.f
  repeat' first
      | (with_reducible exact lex_size.mono _ _)
      | (with_reducible exact LeO.refl _)
      | (with_reducible exact LeO.none _)
      | (with_reducible refine LeO.ite ?_ ?_)
      | (with_reducible refine LeO.bind ?_ (fun _ => ?_))
      | exact lex_size.mono _ _
      | exact LeO.none _
      | refine LeO.ite ?_ ?_
      | refine LeO.bind ?_ (fun _ => ?_)
set_option maxHeartbeats 8000000 in
set_option maxRecDepth 100000 in
theorem lex_one.calls (k : Nat) (a0 : ByteArray) (r : Bool) (w : World) (h : lex_one.f k a0 = some r) :
    Calls Try.prog 30 #[.string a0] w fun e w' => e = .returned (.bool r) ∧ Below w.heap.size w w' := by
  have HB := Aside0.mk (Below.refl w.heap.size w)
  have H : (if a0.toList = ([] : List UInt8) then (some false) else ((lex_size.f k a0).bind fun t107 => (some (t107 == (a0.size : Int))))) = some r := h
  clear h
  by_cases c2 : a0.toList = ([] : List UInt8)
  · rw [if_pos c2] at H
    have c2b0 : (a0.toList == ([] : List UInt8)) = true := beq_iff_eq.mpr c2
    have c2b1 : (a0.toList != ([] : List UInt8)) = false := bne_eq_false_iff_eq.mpr c2
    clear c2
    obtain rfl := Option.some.inj H
    go_enter Try.func30, Try.ntmps30
    go_wp2
    go_ret
    exact ⟨by first | rfl | (simp [errW_none, errW_some] <;> rfl) | (simp [*, errW_none, errW_some] <;> rfl), by repeat (first | (with_reducible first | exact HB.out | apply below_alloc | apply pw_below_drewN | apply below_drew1) | exact HB.out)⟩
  · rw [if_neg c2] at H
    have c2b0 : (a0.toList == ([] : List UInt8)) = false := beq_eq_false_iff_ne.mpr c2
    have c2b1 : (a0.toList != ([] : List UInt8)) = true := bne_iff_ne.mpr c2
    replace H := Option.bind_eq_some_iff.mp H
    obtain ⟨t107, A30, H⟩ := H
    replace H : (some (t107 == (a0.size : Int))) = some r := H
    have A3 := Aside0.mk A30
    clear A30
    obtain rfl := Option.some.inj H
    go_enter Try.func30, Try.ntmps30
    go_wp2_with (first | (go_at_call 20; (with_reducible refine (lex_size.calls k a0 t107 _ A3.out).mono ?_); rintro e w4 ⟨rfl, hb⟩; have n0_ := Aside0.mk (below_step (by repeat (first | (with_reducible first | exact HB.out | apply below_alloc | apply pw_below_drewN | apply below_drew1) | exact HB.out)) hb); clear HB; have HB := n0_; clear n0_; (try clear hb); (try clear hb2); (try clear hk); (try clear hi)))
    go_ret
    exact ⟨by first | rfl | (simp [errW_none, errW_some] <;> rfl) | (simp [*, errW_none, errW_some] <;> rfl), by repeat (first | (with_reducible first | exact HB.out | apply below_alloc | apply pw_below_drewN | apply below_drew1) | exact HB.out)⟩

/-! ### lex_IsText: function 17 -/
def lex_IsText.f (k : Nat) (a0 : ByteArray) : Option (Bool) := (lex_one.f k a0).bind fun t108 => (if t108 = true then (if 0 < (a0.size : Int) then (some ((bt a0 0) == 34)) else (none)) else (some false))
theorem lex_IsText.mono : ∀ a0 k, LeO (lex_IsText.f k a0) (lex_IsText.f (k + 1) a0) := by
  intro a0 k
  unfold lex_IsText.f
  repeat' first
      | (with_reducible exact lex_one.mono _ _)
      | (with_reducible exact LeO.refl _)
      | (with_reducible exact LeO.none _)
      | (with_reducible refine LeO.ite ?_ ?_)
      | (with_reducible refine LeO.bind ?_ (fun _ => ?_))
      | exact lex_one.mono _ _
      | exact LeO.none _
      | refine LeO.ite ?_ ?_
      | refine LeO.bind ?_ (fun _ => ?_)
set_option maxHeartbeats 8000000 in
set_option maxRecDepth 100000 in
theorem lex_IsText.calls (k : Nat) (a0 : ByteArray) (r : Bool) (w : World) (h : lex_IsText.f k a0 = some r) :
    Calls Try.prog 17 #[.string a0] w fun e w' => e = .returned (.bool r) ∧ Below w.heap.size w w' := by
  have HB := Aside0.mk (Below.refl w.heap.size w)
  have H : ((lex_one.f k a0).bind fun t108 => (if t108 = true then (if 0 < (a0.size : Int) then (some ((bt a0 0) == 34)) else (none)) else (some false))) = some r := h
  clear h
  replace H := Option.bind_eq_some_iff.mp H
  obtain ⟨t108, A20, H⟩ := H
  replace H : (if t108 = true then (if 0 < (a0.size : Int) then (some ((bt a0 0) == 34)) else (none)) else (some false)) = some r := H
  have A2 := Aside0.mk A20
  clear A20
  by_cases c3 : t108 = true
  · subst c3
    have H1 : (if 0 < (a0.size : Int) then (some ((bt a0 0) == 34)) else (none)) = some r := by rw [if_pos rfl] at H; exact H
    clear H
    have H := H1
    clear H1
    by_cases c4 : 0 < (a0.size : Int)
    · rw [if_pos c4] at H
      have c4b0 : decide (0 < (a0.size : Int)) = true := decide_eq_true c4
      have c4b1 : decide (0 < a0.size) = true := decide_eq_true (by omega)
      clear c4
      obtain rfl := Option.some.inj H
      go_enter Try.func17, Try.ntmps17
      go_wp2_with (first | ((with_reducible refine gate_callee (f := 30) rfl ?_); refine goesL_ (some 4) rfl rfl Try.func30 (by kernel_rfl) rfl #[.string a0] rfl (by (try simp only [List.map_toArray, List.map_cons, List.map_nil]); first | done | rfl | (simp only [List.length_drop, List.length_take]; rfl)) ?_; (with_reducible refine (lex_one.calls k a0 true _ A2.out).mono ?_); rintro e w6 ⟨rfl, hb⟩; refine ⟨_, rfl, ?_⟩; have n0_ := Aside0.mk (below_step (by repeat (first | (with_reducible first | exact HB.out | apply below_alloc | apply pw_below_drewN | apply below_drew1) | exact HB.out)) hb); clear HB; have HB := n0_; clear n0_; (try clear hb); (try clear hb2); (try clear hk); (try clear hi); have p5 : 0 ≤ (0 : Int) := (by omega); have q5 : 0 < a0.size := (by have : (0 : Int) < (a0.size : Int) := of_decide_eq_true (by first | (with_reducible assumption) | assumption); omega); have hx5 : ∀ h : 0 < a0.size, ((a0[0]'h).toNat : Int) = bt a0 0 := bt_at a0 0; clear p5; have qi5 : (0 < (a0.size : Int)) = True := eq_true (of_decide_eq_true (by first | (with_reducible assumption) | assumption)); replace q5 := eq_true q5))
      go_ret
      exact ⟨by first | rfl | (simp [errW_none, errW_some] <;> rfl) | (simp [*, errW_none, errW_some] <;> rfl), by repeat (first | (with_reducible first | exact HB.out | apply below_alloc | apply pw_below_drewN | apply below_drew1) | exact HB.out)⟩
    · rw [if_neg c4] at H
      exact absurd H (by simp)
  · replace c3 := Bool.eq_false_iff.mpr c3
    subst c3
    have H1 : (some false) = some r := by rw [if_neg (show ¬ (false = true) by decide)] at H; exact H
    clear H
    have H := H1
    clear H1
    obtain rfl := Option.some.inj H
    go_enter Try.func17, Try.ntmps17
    go_wp2_with (first | ((with_reducible refine gate_callee (f := 30) rfl ?_); refine goesL_ (some 4) rfl rfl Try.func30 (by kernel_rfl) rfl #[.string a0] rfl (by (try simp only [List.map_toArray, List.map_cons, List.map_nil]); first | done | rfl | (simp only [List.length_drop, List.length_take]; rfl)) ?_; (with_reducible refine (lex_one.calls k a0 false _ A2.out).mono ?_); rintro e w7 ⟨rfl, hb⟩; refine ⟨_, rfl, ?_⟩; have n0_ := Aside0.mk (below_step (by repeat (first | (with_reducible first | exact HB.out | apply below_alloc | apply pw_below_drewN | apply below_drew1) | exact HB.out)) hb); clear HB; have HB := n0_; clear n0_; (try clear hb); (try clear hb2); (try clear hk); (try clear hi)))
    go_ret
    exact ⟨by first | rfl | (simp [errW_none, errW_some] <;> rfl) | (simp [*, errW_none, errW_some] <;> rfl), by repeat (first | (with_reducible first | exact HB.out | apply below_alloc | apply pw_below_drewN | apply below_drew1) | exact HB.out)⟩

end Go.Proofs.Ytcombonfmhgnjaa.PLex
