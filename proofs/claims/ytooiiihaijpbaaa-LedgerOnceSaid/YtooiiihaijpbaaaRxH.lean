/- Library functions that write to a strings.Builder, and those that look for a byte or a prefix. -/
import Derived.Test.YtooiiihaijpbaaaRxM5
import Derived.Test.YtooiiihaijpbaaaShelf
import Derived.Tactics
import Derived.WalkKit
import Derived.Lib.Strings
import Derived.Lib.Walk
import Derived.Lib.Builder
import Derived.Lib.UnsafeStr
import Derived.Laws.Externs
import Derived.Lib.Hide
import Derived.WalkSpells
import Derived.Below
import Derived.Laws.RangeString
import Derived.Laws.RangeAny
import Derived.KernelRfl
set_option linter.unusedVariables false
set_option linter.unusedSimpArgs false
namespace Go.Proofs.Ytooiiihaijpbaaa.RxH
open Go.RowKit Go.Proofs
/-! ### json_Plain -/
def badR (n : Nat) : Bool := decide (n < 32) || decide (126 < n)
open Go.Shelf Go.Lib in
theorem plain_bad (w : World) : PredAt Try.prog 77 #[] encR badR w := fun W r _ => by
  unfold FnGives
  by_cases h1 : r < 32
  · have HX := Lib.hid (show badR r = true by simp [badR, h1])
    have t1 : decide ((r : Int) < 32) = true := decide_eq_true (by omega)
    clear h1
    go_enter Try.func77, Try.ntmps77
    go_wp2
    go_ret
    exact ⟨by rw [HX.out]; rfl, 0, rfl⟩
  · have t1 : decide ((r : Int) < 32) = false := decide_eq_false (by omega)
    by_cases h2 : 126 < r
    · have HX := Lib.hid (show badR r = true by simp [badR, h2])
      have t2 : decide (126 < (r : Int)) = true := decide_eq_true (by omega)
      clear h1 h2
      go_enter Try.func77, Try.ntmps77
      go_wp2
      go_ret
      exact ⟨by rw [HX.out]; rfl, 0, rfl⟩
    · have HX := Lib.hid (show badR r = false by simp [badR, h1, h2])
      have t2 : decide (126 < (r : Int)) = false := decide_eq_false (by omega)
      clear h1 h2
      go_enter Try.func77, Try.ntmps77
      go_wp2
      go_ret
      exact ⟨by rw [HX.out]; rfl, 0, rfl⟩
def json_Plain.f (a0 : ByteArray) (a1 : Int) : Option Bool := some (decide ((a0.size : Int) ≤ a1) && !decide (0 ≤ Lib.idxFunc badR true a0))
set_option maxHeartbeats 1000000 in
theorem json_Plain.calls (a0 : ByteArray) (a1 : Int) (r : Bool) (w : World) (h : json_Plain.f a0 a1 = some r) :
    Calls Try.prog 74 #[.string a0, .int .i64 a1] w fun e w' => e = .returned (.bool r) ∧ Below w.heap.size w w' := by
  have HR := Lib.hid (Option.some.inj h)
  clear h
  have HC := Lib.hid (Try.strings_ContainsFunc 77 #[] (enters_of Try.func77 (by kernel_rfl) rfl) badR a0 w (plain_bad w))
  by_cases c : (a0.size : Int) ≤ a1
  · have HR2 := Lib.hid (show (!decide (0 ≤ Lib.idxFunc badR true a0)) = r by rw [← HR.out, decide_eq_true c, Bool.true_and])
    have t1 : decide ((a0.size : Int) ≤ a1) = true := decide_eq_true c
    clear c
    go_enter Try.func74, Try.ntmps74
    go_wp2_with (fail)
    refine HC.out.mono ?_
    rintro e w2 ⟨rfl, hd2⟩
    go_wp2
    go_ret
    exact ⟨by rw [HR2.out]; rfl, hd2⟩
  · have HR2 := Lib.hid (show false = r by rw [← HR.out, decide_eq_false c, Bool.false_and])
    have t1 : decide ((a0.size : Int) ≤ a1) = false := decide_eq_false c
    clear c
    go_enter Try.func74, Try.ntmps74
    go_wp2
    go_ret
    exact ⟨by rw [HR2.out]; rfl, Below.refl _ _⟩
/-! ### strings_Builder_copyCheck -/
theorem hb_byte : (Try.prog.info? 5).map (fun i => (i.zero, i.size, i.bytes)) = some (some (.int .u8 0), 1, 1) := by kernel_rfl
/-! ### strings_Builder_WriteByte -/
/-! ### json_String -/
def strGo : List UInt8 → Nat → List UInt8 → List UInt8 × Nat × Bool
  | [], _, _ => ([], 0, false)
  | [c], i, acc => if c.toNat = 34 then (acc, i + 1, true) else if c.toNat < 32 ∨ 126 < c.toNat then ([], 0, false) else ([], 0, false)
  | c :: d :: t, i, acc =>
    if c.toNat = 34 then (acc, i + 1, true)
    else if c.toNat < 32 ∨ 126 < c.toNat then ([], 0, false)
    else if c.toNat = 92 then (if d.toNat = 34 ∨ d.toNat = 92 then strGo t (i + 2) (acc ++ [d]) else ([], 0, false))
    else strGo (d :: t) (i + 1) (acc ++ [c])
def json_String.f (a0 : ByteArray) : Option (ByteArray × Int × Bool) :=
  if a0.size ≤ 140737488355328 then (let r := strGo (a0.data.toList.drop 1) 1 []; some (⟨r.1.toArray⟩, (r.2.1 : Int), r.2.2)) else none
theorem drop_at (s : ByteArray) (k : Nat) (h : k < s.size) : s.data.toList.drop k = s[k] :: s.data.toList.drop (k + 1) := by
  rw [List.drop_eq_getElem_cons (by simpa using h)]; rfl
theorem drop_end (s : ByteArray) (k : Nat) (h : s.size ≤ k) : s.data.toList.drop k = [] := List.drop_of_length_le (by rw [Array.length_toList]; exact h)
theorem strGo_q {c : UInt8} {t acc : List UInt8} {i : Nat} (h : c.toNat = 34) : strGo (c :: t) i acc = (acc, i + 1, true) := by
  cases t <;> simp [strGo, h]
theorem strGo_bad {c : UInt8} {t acc : List UInt8} {i : Nat} (h : c.toNat < 32 ∨ 126 < c.toNat) : strGo (c :: t) i acc = ([], 0, false) := by
  have h1 : ¬ c.toNat = 34 := by omega
  cases t <;> simp only [strGo, if_neg h1, if_pos h]
theorem strGo_plain {c : UInt8} {t acc : List UInt8} {i : Nat} (h1 : ¬ c.toNat = 34) (h2 : ¬ (c.toNat < 32 ∨ 126 < c.toNat)) (h3 : ¬ c.toNat = 92) : strGo (c :: t) i acc = strGo t (i + 1) (acc ++ [c]) := by
  cases t <;> simp only [strGo, if_neg h1, if_neg h2, if_neg h3]
theorem strGo_esc {c d : UInt8} {t acc : List UInt8} {i : Nat} (h : c.toNat = 92) (h3 : d.toNat = 34 ∨ d.toNat = 92) : strGo (c :: d :: t) i acc = strGo t (i + 2) (acc ++ [d]) := by
  have h1 : ¬ c.toNat = 34 := by omega
  have h2 : ¬ (c.toNat < 32 ∨ 126 < c.toNat) := by omega
  simp only [strGo, if_neg h1, if_neg h2, if_pos h, if_pos h3]
theorem strGo_esc_no {c d : UInt8} {t acc : List UInt8} {i : Nat} (h : c.toNat = 92) (h3 : ¬ (d.toNat = 34 ∨ d.toNat = 92)) : strGo (c :: d :: t) i acc = ([], 0, false) := by
  have h1 : ¬ c.toNat = 34 := by omega
  have h2 : ¬ (c.toNat < 32 ∨ 126 < c.toNat) := by omega
  simp only [strGo, if_neg h1, if_neg h2, if_pos h, if_neg h3]
theorem strGo_esc_end {c : UInt8} {acc : List UInt8} {i : Nat} (h : c.toNat = 92) : strGo [c] i acc = ([], 0, false) := by
  have h1 : ¬ c.toNat = 34 := by omega
  simp only [strGo, if_neg h1, ite_self]
theorem byteCells_snoc' (l : List UInt8) (c : UInt8) : Lib.byteCells l ++ [.int .u8 (c.toNat : Int)] = Lib.byteCells (l ++ [c]) := by simp [Lib.byteCells]
theorem ret3 {a a' : ByteArray} {b b' : Int} {c c' : Bool} (h : (a, b, c) = (a', b', c')) : Ending.returned (.tuple #[.string a, .int .i64 b, .bool c]) = .returned (.tuple #[.string a', .int .i64 b', .bool c']) := by
  injection h with h1 h2; injection h2 with h2 h3; rw [h1, h2, h3]
end Go.Proofs.Ytooiiihaijpbaaa.RxH
