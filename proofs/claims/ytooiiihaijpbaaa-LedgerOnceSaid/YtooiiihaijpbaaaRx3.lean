/- A short table of a program's types, and the operations on values. -/
import Derived.Test.YtooiiihaijpbaaaRx2
import Derived.Laws.StructEq
import Derived.Laws.Entries
import Derived.Laws.Cells
import Derived.Laws.Rows
namespace Go.Rx

inductive TyD where
  | int (k : IntKind)
  | bool
  | str
  | strct (fs : List (Nat × TypeId))
  | slice (e : TypeId)
  | other
structure Ty where
  d : TyD
  size : Nat
  bytes : Nat
  zero : List Value
/-- The types, and the functions to which a caller's own blocks are lent. -/
structure Tab where
  tys : List (Nat × Ty)
  lend : List Nat
def Tab.find (T : Tab) (t : TypeId) : Option Ty := List.lookup t T.tys
def lendB (T : Tab) : Operand → Bool
  | .func f => T.lend.any (Nat.beq f)
  | _ => false

def TyD.agg : TyD → Bool
  | .strct _ => true
  | _ => false
def plainV : Value → Bool
  | .int _ _ | .bool _ | .string _ | .pointer none | .slice none 0 0 | .nilFunc | .nilIface => true
  | _ => false
def vEq : Value → Value → Bool
  | .int k a, .int k' b => k == k' && a == b
  | .bool a, .bool b => a == b
  | .string a, .string b => decide (a = b)
  | .pointer none, .pointer none => true
  | .slice none 0 0, .slice none 0 0 => true
  | .nilFunc, .nilFunc => true
  | .nilIface, .nilIface => true
  | _, _ => false
theorem vEq_eq {a b : Value} (h : vEq a b = true) : a = b ∧ plainV b = true := by
  unfold vEq at h
  split at h
  · simp only [Bool.and_eq_true, beq_iff_eq] at h; rw [h.1, h.2]; exact ⟨rfl, rfl⟩
  · simp only [beq_iff_eq] at h; rw [h]; exact ⟨rfl, rfl⟩
  · rw [of_decide_eq_true h]; exact ⟨rfl, rfl⟩
  · exact ⟨rfl, rfl⟩
  · exact ⟨rfl, rfl⟩
  · exact ⟨rfl, rfl⟩
  · exact ⟨rfl, rfl⟩
  · cases h
theorem plainV_one {v : Value} (h : plainV v = true) : v.oneCell' = true := by
  cases v <;> first | rfl | cases h
def vsEq : List Value → List Value → Bool
  | [], [] => true
  | a :: l, b :: m => vEq a b && vsEq l m
  | _, _ => false
theorem vsEq_eq : ∀ {l m : List Value}, vsEq l m = true → l = m ∧ ∀ v ∈ m, plainV v = true
  | [], [], _ => ⟨rfl, by simp⟩
  | a :: l, b :: m, h => by
    simp only [vsEq, Bool.and_eq_true] at h
    obtain ⟨rfl, hp⟩ := vEq_eq h.1
    obtain ⟨rfl, hq⟩ := vsEq_eq h.2
    exact ⟨rfl, by simpa using ⟨hp, hq⟩⟩
  | [], _ :: _, h => by cases h
  | _ :: _, [], h => by cases h

/-- The program's own description of a type against the table's. -/
structure TyOK (P : Program) (t : TypeId) (ty : Ty) : Prop where
  info : ∃ i z, P.info? t = some i ∧ i.size = ty.size ∧ i.bytes = ty.bytes ∧ i.zero = some z ∧ z.cells.toList = ty.zero ∧ (z = .agg ty.zero.toArray ∨ ty.d.agg = false)
  zp : ∀ v ∈ ty.zero, plainV v = true
  zs : ty.zero.length = ty.size
  agg : ∃ d, P.underlying t = some d ∧ (match d with | .struct _ | .array _ _ => true | _ => false) = ty.d.agg
  int : ∀ k, ty.d = .int k → P.underlying t = some (.int k)
  bool : ty.d = .bool → P.underlying t = some .bool
  str : ty.d = .str → P.underlying t = some .string
  strct : ∀ fs, ty.d = .strct fs → ∃ F : Array Field, P.underlying t = some (.struct F) ∧ F.toList.map (fun f => (f.offset, f.type)) = fs ∧ (∀ f ∈ F.toList, f.name ≠ "_") ∧ P.stoodInHeld t = false ∧ P.eqGuardType P.depth t = false ∧ ∀ f ∈ F.toList, ∃ i, P.info? f.type = some i
  slice : ∀ e, ty.d = .slice e → P.underlying t = some (.slice e)
def chkTy (P : Program) (t : TypeId) (ty : Ty) : Bool :=
  (match P.info? t with
   | some i => i.size == ty.size && i.bytes == ty.bytes && (match i.zero with
     | some (.agg cs) => ty.d.agg && vsEq cs.toList ty.zero
     | some z => !ty.d.agg && vsEq z.cells.toList ty.zero
     | none => false)
   | none => false) && ty.zero.length == ty.size &&
  (match P.underlying t, ty.d with
   | some (.int k), .int k' => k == k'
   | some .bool, .bool => true
   | some .string, .str => true
   | some (.struct F), .strct fs => F.toList.map (fun f => (f.offset, f.type)) == fs && F.toList.all (fun f => f.name != "_") && !P.stoodInHeld t && !P.eqGuardType P.depth t && F.toList.all (fun f => (P.info? f.type).isSome)
   | some (.slice e), .slice e' => e == e'
   | some (.struct _), _ | some (.array _ _), _ | none, _ => false
   | some _, .other => true
   | _, _ => false)
theorem chkTy_ok {P : Program} {t : TypeId} {ty : Ty} (h : chkTy P t ty = true) : TyOK P t ty := by
  obtain ⟨d, size, bytes, zero⟩ := ty
  simp only [chkTy, Bool.and_eq_true] at h
  obtain ⟨⟨h1, hz⟩, h2⟩ := h
  have hinfo : ∃ i z, P.info? t = some i ∧ i.size = size ∧ i.bytes = bytes ∧ i.zero = some z ∧ z.cells.toList = zero ∧ (z = .agg zero.toArray ∨ d.agg = false) ∧ ∀ v ∈ zero, plainV v = true := by
    cases hi : P.info? t with
    | none => rw [hi] at h1; cases h1
    | some i =>
      rw [hi] at h1
      simp only [Bool.and_eq_true, beq_iff_eq] at h1
      obtain ⟨⟨e1, e2⟩, h1⟩ := h1
      cases hzz : i.zero with
      | none => rw [hzz] at h1; cases h1
      | some z =>
        rw [hzz] at h1
        cases z with
        | agg cs =>
          simp only [Bool.and_eq_true] at h1
          obtain ⟨e3, e4⟩ := vsEq_eq h1.2
          exact ⟨i, .agg cs, rfl, e1, e2, hzz, e3, .inl (by rw [← e3]), e4⟩
        | _ =>
          simp only [Bool.and_eq_true, Bool.not_eq_true'] at h1
          obtain ⟨e3, e4⟩ := vsEq_eq h1.2
          exact ⟨i, _, rfl, e1, e2, hzz, e3, .inr h1.1, e4⟩
  obtain ⟨i, z, a1, a2, a3, a4, a5, a6, a7⟩ := hinfo
  cases hu : P.underlying t with
  | none => rw [hu] at h2; cases d <;> cases h2
  | some D =>
    rw [hu] at h2
    refine ⟨⟨i, z, a1, a2, a3, a4, a5, a6⟩, a7, by simpa using hz, ⟨D, hu, ?_⟩, fun k e => ?_, fun e => ?_, fun e => ?_, fun fs e => ?_, fun e' e => ?_⟩
    · cases D <;> cases d <;> first | rfl | cases h2
    all_goals (simp only at e; subst e; cases D <;> first | cases h2 | skip)
    · simp only [beq_iff_eq] at h2; rw [hu, h2]
    · exact hu
    · exact hu
    · rename_i F
      simp only [Bool.and_eq_true, beq_iff_eq, List.all_eq_true, bne_iff_ne, Bool.not_eq_true'] at h2
      exact ⟨F, hu, h2.1.1.1.1, h2.1.1.1.2, h2.1.1.2, h2.1.2, fun f hf => Option.isSome_iff_exists.1 (h2.2 f hf)⟩
    · simp only [beq_iff_eq] at h2; rw [hu, h2]
def TabOK (P : Program) (T : Tab) : Prop := ∀ t ty, T.find t = some ty → TyOK P t ty
theorem tys_ok {P : Program} : ∀ {l : List (Nat × Ty)}, (l.all fun x => chkTy P x.1 x.2) = true → ∀ t ty, List.lookup t l = some ty → TyOK P t ty
  | [], _, t, ty, h => by cases h
  | (t0, ty0) :: l, hc, t, ty, h => by
    simp only [List.all_cons, Bool.and_eq_true] at hc
    simp only [List.lookup] at h
    split at h
    · rename_i he
      have : t = t0 := by simpa using he
      subst this
      cases h
      exact chkTy_ok hc.1
    · exact tys_ok hc.2 t ty h
theorem tabOK_of {P : Program} {T : Tab} (h : (T.tys.all fun x => chkTy P x.1 x.2) = true) : TabOK P T := tys_ok h

/-! ### Operators on values of one cell -/
def vBin (op : BinOp) (a b : Value) : Option Value :=
  match a, b with
  | .int k x, .int k' y => if k = k' then (match op with
      | .add => some (.int k (k.wrap (x + y)))
      | .sub => some (.int k (k.wrap (x - y)))
      | .mul => some (.int k (k.wrap (x * y)))
      | .eql => some (.bool (x == y))
      | .neq => some (.bool (x != y))
      | .lss => some (.bool (decide (x < y)))
      | .leq => some (.bool (decide (x ≤ y)))
      | .gtr => some (.bool (decide (x > y)))
      | .geq => some (.bool (decide (x ≥ y)))
      | _ => none) else none
  | .bool x, .bool y => (match op with
      | .eql => some (.bool (x == y))
      | .neq => some (.bool (x != y))
      | _ => none)
  | .string x, .string y => (match op with
      | .eql => some (.bool (x == y))
      | .neq => some (.bool (x != y))
      | _ => none)
  | _, _ => none
def vUn (op : UnOp) (a : Value) : Option Value :=
  match op, a with
  | .not, .bool x => some (.bool (!x))
  | .neg, .int k x => some (.int k (k.wrap (0 - x)))
  | _, _ => none

section
variable {P : Program}
theorem run_eqGuard_sc (op : BinOp) (t : TypeId) (x y : Operand) (a b v : Value) (w : World) (h : vBin op a b = some v) : (eqGuard op t x y a b).run P w = .ok () w := by
  cases a <;> cases b <;> simp [vBin] at h <;> cases op <;> simp [eqGuard]
set_option maxHeartbeats 800000 in
theorem vBin_run {T : Tab} (hT : TabOK P T) {op : BinOp} {t : TypeId} {ty : Ty} (ht : T.find t = some ty) {x y : Operand} {a b v : Value} (h : vBin op a b = some v) (hb : (∃ p, a = .bool p) → ty.d = .bool) (w : World) :
    (do eqGuard op t x y a b; binOp op t a b).run P w = .ok v w ∧ v.oneCell' = true := by
  rw [Sem.run_bind, run_eqGuard_sc op t x y a b v w h, Result.andThen_ok]
  cases a with
  | int k p =>
    cases b <;> simp [vBin] at h
    obtain ⟨rfl, h⟩ := h
    cases op <;> simp at h <;> subst h <;> exact ⟨by simp [binOp, Op.intArith, Op.intCmp], rfl⟩
  | bool p =>
    cases b <;> simp [vBin] at h
    have hu := (hT t ty ht).bool (hb ⟨_, rfl⟩)
    have e := run_equalIn_bool' (P := P) w 9999 t p (by assumption) hu
    have e1 : ∀ q, binOp .eql t (.bool p) (.bool q) = (do pure (.bool (← Op.equal t (.bool p) (.bool q)))) := fun _ => rfl
    have e2 : ∀ q, binOp .neq t (.bool p) (.bool q) = (do pure (.bool (!(← Op.equal t (.bool p) (.bool q))))) := fun _ => rfl
    cases op <;> simp at h <;> subst h
    · exact ⟨by rw [e1]; simp only [Op.equal, Op.maxDepth, Sem.run_bind, e, Result.andThen_ok, Sem.run_pure], rfl⟩
    · exact ⟨by rw [e2]; simp only [Op.equal, Op.maxDepth, Sem.run_bind, e, Result.andThen_ok, Sem.run_pure, bne], rfl⟩
  | string p =>
    cases b <;> simp [vBin] at h
    cases op <;> simp at h <;> subst h <;> exact ⟨by simp [binOp, Op.stringOp, beq_toListBytes, bne], rfl⟩
  | _ => cases b <;> simp [vBin] at h
theorem vUn_run {op : UnOp} {a v : Value} (h : vUn op a = some v) (w : World) : (Op.unary op a).run P w = .ok v w ∧ v.oneCell' = true := by
  cases op <;> cases a <;> simp [vUn] at h <;> subst h <;> exact ⟨by simp [Op.unary, Op.intArith], rfl⟩
end
end Go.Rx
