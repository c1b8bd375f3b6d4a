/- Every operation: what it makes of what is known, and that it is so. -/
import Derived.Test.YtooiiihaijpbaaaRx7
import Derived.Laws.Slices
set_option linter.unusedVariables false
set_option linter.unusedSimpArgs false
namespace Go.Rx
open Go.RowKit

def fldOff (T : Tab) (s : TypeId) (f : Nat) : Option Nat :=
  match T.find s with
  | some ⟨.strct fs, _, _, _⟩ =>
    (match fs[f]? with
     | some (off, t) => (match T.find t with | some ty => bif Nat.beq ty.size 0 then none else some off | none => none)
     | none => none)
  | _ => none
def elemOf? (T : Tab) (t : TypeId) : Option (TypeId × Ty) :=
  match T.find t with
  | some ⟨.slice e, _, _, _⟩ => (T.find e).map fun te => (e, te)
  | _ => none
def isStr (T : Tab) (t : TypeId) : Bool := match T.find t with | some ⟨.str, _, _, _⟩ => true | _ => false
def isBoolT (T : Tab) (t : TypeId) : Bool := match T.find t with | some ⟨.bool, _, _, _⟩ => true | _ => false
/-- Rows of bytes; a text's bytes as rows. -/
def isBytes (T : Tab) (t : TypeId) : Bool := match elemOf? T t with | some (_, ⟨.int .u8, _, _, _⟩) => true | _ => false
def byteRows (s : ByteArray) : List (List PV) := s.data.toList.map fun c => [.sc (.int .u8 c.toNat)]
def intKind (T : Tab) (t : TypeId) : Option IntKind := match T.find t with | some ⟨.int k, _, _, _⟩ => some k | _ => none
/-- A bound of a slice expression. -/
def bnd (x : Option AV) (d : Int) : Option Int :=
  match x with
  | none => some d
  | some (.lf (.pv (.sc (.int _ n)))) => some n
  | _ => none
def eqV (T : Tab) (t : TypeId) (u v : Value) : Option Bool :=
  match T.find t, u, v with
  | some ⟨.int _, _, _, _⟩, .int k a, .int k' b => if k = k' then some (a == b) else none
  | some ⟨.bool, _, _, _⟩, .bool a, .bool b => some (a == b)
  | some ⟨.str, _, _, _⟩, .string a, .string b => some (a == b)
  | _, _, _ => none
/-- Two structs whose fields are of one cell each, in order, and plain. -/
def eqFs (T : Tab) : Nat → List (Nat × TypeId) → List Lf → List Lf → Option Bool
  | _, [], [], [] => some true
  | i, (off, t) :: fs, .pv (.sc u) :: l, .pv (.sc v) :: m =>
    bif Nat.beq off i then (match eqV T t u v with | some b => (eqFs T (i + 1) fs l m).map fun r => b && r | none => none) else none
  | _, _, _, _ => none

def tyB (T : Tab) (t : TypeId) (u : Value) : Bool := match T.find t, u with | some _, .bool _ => isBoolT T t | some _, _ => true | none, _ => false
def binX (op : BinOp) (u v : Value) (K : AV → Prop) : Prop :=
  match op, u, v with
  | .add, .string a, .string b => a.size + b.size ≤ 9223372036854775807 ∧ K (sc (.string (a ++ b)))
  | .quo, .int .i64 a, .int .i64 b => 0 ≤ a ∧ 0 < b ∧ a ≤ 9223372036854775807 ∧ K (sc (.int .i64 (a / b)))
  | .rem, .int .i64 a, .int .i64 b => 0 ≤ a ∧ 0 < b ∧ a ≤ 9223372036854775807 ∧ K (sc (.int .i64 (a % b)))
  | .rem, .int .u64 a, .int .u64 b => 0 ≤ a ∧ 0 < b ∧ K (sc (.int .u64 (a % b)))
  | .shl, .int k a, .int _ b => 0 ≤ b ∧ K (sc (.int k (k.wrap (a * 2 ^ (min b.toNat k.bits)))))
  | .shr, .int k a, .int _ b => 0 ≤ b ∧ K (sc (.int k (a.fdiv (2 ^ (min b.toNat k.bits)))))
  | .or, .int k a, .int k' b => k = k' ∧ K (sc (.int k (k.wrap (BitVec.ofInt k.bits a ||| BitVec.ofInt k.bits b).toNat)))
  | .and, .int k a, .int k' b => k = k' ∧ K (sc (.int k (k.wrap (BitVec.ofInt k.bits a &&& BitVec.ofInt k.bits b).toNat)))
  | _, _, _ => False
def binK (T : Tab) (op : BinOp) (t : TypeId) (x y : AV) (K : AV → Prop) : Prop :=
  match x, y with
  | .lf (.pv (.sc u)), .lf (.pv (.sc v)) =>
    (match vBin op u v with
     | some z => bif tyB T t u then K (sc z) else False
     | none =>
       binX op u v K)
  | .agg ls, .agg ms =>
    (match T.find t with
     | some ⟨.strct fs, _, _, _⟩ =>
       (match eqFs T 0 fs ls ms with
        | some r => (match op with | .eql => K (sc (.bool r)) | .neq => K (sc (.bool (!r))) | _ => False)
        | none => False)
     | _ => False)
  | _, _ => False

def chunk (sz : Nat) : Nat → List PV → List (List PV)
  | 0, _ => []
  | n + 1, l => l.take sz :: chunk sz n (l.drop sz)

def lfOf : AV → Option Lf
  | .lf l => some l
  | _ => none
def roOf : Lf → Option (List PV)
  | .ro l => some l
  | _ => none
def opV (P : Program) (T : Tab) (op : Op) (ρ : Operand → AV) (bk : List Blk) (K : AV → List Blk → Prop) : Prop :=
  match op with
  | .move x => K (ρ x) bk
  | .assign x => K (ρ x) bk
  | .pick c x y =>
    (match ρ c with
     | .lf (.pv (.sc (.bool true))) => K (ρ x) bk
     | .lf (.pv (.sc (.bool false))) => K (ρ y) bk
     | _ => False)
  | .alloc t => (match T.find t with | some ty => K (.lf (.ptr bk.length 0)) (bk ++ [.var (ty.zero.map lsc)]) | none => False)
  | .box t x => (match leaves (ρ x) with | some ls => K (.lf (.ptr bk.length 0)) (bk ++ [.var ls]) | none => False)
  | .build t parts =>
    (match T.find t with
     | some ⟨.strct fs, _, _, zero⟩ => (match fillL (placeT T fs) (zero.map lsc) (parts.toList.map fun p => (p.1, leaves (ρ p.2))) with | some ls => K (.agg ls) bk | none => False)
     | _ => False)
  | .buildSlice t len parts =>
    (match elemOf? T t with
     | some (e, te) => bif Nat.blt 0 te.size && Nat.ble (len * te.size) 16777216 && Nat.ble len 9223372036854775807 then
         (match fillL (fun i => some (i * te.size, te.size)) ((List.range (len * te.size)).map fun i => lsc (te.zero.getD (i % te.size) undef)) (parts.toList.map fun p => (p.1, leaves (ρ p.2))) with
          | some ls => pvsK bk ls fun bk ps => K (.lf (.own bk.length len)) (bk ++ [.arr e te.size (chunk te.size len ps)])
          | none => False) else False
     | none => False)
  | .load t p => loadK T t (ρ p) bk fun x => K x bk
  | .store t p x => storeK T t (ρ p) (ρ x) bk fun bk => K .un bk
  | .nilCheck x => (match ρ x with | .lf (.ptr b o) => K (.lf (.ptr b o)) bk | .lf (.ro l) => K (.lf (.ro l)) bk | _ => False)
  | .binOp op t x y _ => binK T op t (ρ x) (ρ y) fun z => K z bk
  | .unOp op _ x => (match ρ x with | .lf (.pv (.sc u)) => (match vUn op u with | some z => K (sc z) bk | none => False) | _ => False)
  | .convert s d x =>
    (match ρ x with
     | .lf (.pv (.sc (.int k n))) => (match intKind T s, intKind T d with | some _, some k' => K (sc (.int k' (k'.wrap n))) bk | _, _ => False)
     | .lf (.pv (.sc (.string z))) => bif isStr T s then (bif isStr T d then K (sc (.string z)) bk else bif isBytes T d then K (.lf (.pv (.sl 1 (byteRows z)))) (bk ++ [.dead]) else False) else False
     | .lf (.pv (.sl sz rows)) => bif isBytes T s && isStr T d && Nat.beq sz 1 then ∃ z, rows = byteRows z ∧ K (sc (.string z)) bk else False
     | .lf (.pv (.sc (.slice none 0 0))) => bif isBytes T s && isStr T d then K (sc (.string .empty)) bk else False
     | .lf (.own b len) =>
       bif isBytes T s then
         (bif isStr T d then (match rowsOf bk b with | some (sz, rows) => bif Nat.beq sz 1 then rows.length = len ∧ ∃ z, rows = byteRows z ∧ K (sc (.string z)) bk else False | none => False)
          else bif isBytes T d && Nat.beq s d && Nat.blt 0 len then pvK bk (.own b len) fun bk p => K (.lf (.pv p)) bk else False) else False
     | _ => False)
  | .slice t x lo hi none =>
    (match ρ x with
     | .lf (.pv (.sc (.string s))) => bif isStr T t then (match bnd (lo.map ρ) 0, bnd (hi.map ρ) s.size with | some l, some h => 0 ≤ l ∧ l ≤ h ∧ h ≤ s.size ∧ K (sc (.string (s.extract l.toNat h.toNat))) bk | _, _ => False) else False
     | .lf l => pvK bk l fun bk p =>
       (match p, elemOf? T t with
        | .sl sz rows, some (e, te) => bif Nat.beq te.size sz then (match bnd (lo.map ρ) 0, bnd (hi.map ρ) rows.length with | some l, some h => 0 ≤ l ∧ l ≤ h ∧ h ≤ rows.length ∧ K (.lf (.pv (.sl sz ((rows.take h.toNat).drop l.toNat)))) bk | _, _ => False) else False
        | _, _ => False)
     | _ => False)
  | .fieldAddr s x f =>
    (match fldOff T s f with
     | some off =>
       (match ρ x with
        | .lf (.ptr b o) => K (.lf (.ptr b (o + off))) bk
        | .lf (.ro l) => K (.lf (.ro (l.drop off))) bk
        | .lf (.ept b n i sz o) => (match rowsOf bk b with | some (_, rows) => rows.length = n ∧ K (.lf (.ept b n i sz (o + off))) bk | none => False)
        | _ => False)
     | none => False)
  | .indexAddr t x ix =>
    (match elemOf? T t, ρ ix with
     | some (_, te), .lf (.pv (.sc (.int _ i))) =>
       (match ρ x with
        | .lf (.pv (.sl sz rows)) => bif Nat.beq te.size sz then 0 ≤ i ∧ ∃ r, rows[i.toNat]? = some r ∧ K (.lf (.ro r)) bk else False
        | .lf (.own b len) => (match rowsOf bk b with | some (sz, rows) => bif Nat.beq te.size sz then rows.length = len ∧ 0 ≤ i ∧ i < len ∧ K (.lf (.ept b len i.toNat sz 0)) bk else False | none => False)
        | _ => False)
     | _, _ => False)
  | .index t x ix =>
    (match ρ x, ρ ix with
     | .lf (.pv (.sc (.string s))), .lf (.pv (.sc (.int _ i))) => bif isStr T t then 0 ≤ i ∧ ∃ c, s[i.toNat]? = some c ∧ K (sc (.int .u8 c.toNat)) bk else False
     | _, _ => False)
  | .extract x k => (match ρ x with | .tup ts => (match ts[k]? with | some (.lf l) => K (.lf l) bk | some (.agg l) => K (.agg l) bk | none => False) | _ => False)
  | .makeFunc (.func f) first caps =>
    (match first.toList with
     | [] =>
       (match (caps.toList.map ρ).mapM lfOf with
        | some ls => argLs bk ls fun bk xs => (match xs.mapM roOf with | some cs => K (.lf (.fn f cs)) bk | none => False)
        | none => False)
     | _ => False)
  | .call c =>
    (match c.callee, c.args.toList, c.argTypes.toList with
     | .builtin .len, [x], [t] =>
       (match ρ x with
        | .lf (.pv (.sc (.string s))) => bif isStr T t then K (sc (.int .i64 s.size)) bk else False
        | .lf (.pv (.sl _ rows)) => (match elemOf? T t with | some _ => K (sc (.int .i64 rows.length)) bk | none => False)
        | .lf (.pv (.sc (.slice none 0 0))) => (match elemOf? T t with | some _ => K (sc (.int .i64 0)) bk | none => False)
        | .lf (.own b len) => (match elemOf? T t, rowsOf bk b with | some _, some (_, rows) => rows.length = len ∧ K (sc (.int .i64 len)) bk | _, _ => False)
        | _ => False)
     | .builtin .append, [x, y], [t, t'] => bif Nat.beq t t' then
       (match elemOf? T t with
        | some (e, te) => bif Nat.blt 0 te.size && Nat.blt 0 te.bytes then
          (match ρ y with
           | .lf l => pvK bk l fun bk p => ∃ rows2, (p = .sl te.size rows2 ∨ (p = .sc (.slice none 0 0) ∧ rows2 = [])) ∧
             (match ρ x with
              | .lf (.own b len) => (match bk[b]? with | some (.arr e' sz rows) => bif Nat.beq e' e && Nat.beq sz te.size then rows.length = len ∧ (len + rows2.length) * te.bytes ≤ 140737488355328 ∧ K (.lf (.own b (len + rows2.length))) (bk.set b (.arr e sz (rows ++ rows2))) else False | _ => False)
              | .lf (.pv (.sc (.slice none 0 0))) => rows2.length * te.bytes ≤ 140737488355328 ∧ K (.lf (.own bk.length rows2.length)) (bk ++ [.arr e te.size rows2])
              | _ => False)
           | _ => False) else False
        | none => False) else False
     | .value f, xs, _ => callK P (lendB T f) (ρ f) (xs.map ρ) bk K
     | _, _, _ => False)
  | _ => False

section
variable {P : Program} {T : Tab} {C : Ctx} {G : Gh} {sl : Nat → AV} {bk : List Blk} {a : Act} {w : World}

/-- How a step may come out. -/
inductive Out (P : Program) (C : Ctx) (G : Gh) (bk : List Blk) (w : World) (K : AV → List Blk → Prop) : Result Next → Prop
  | value {x : AV} {u : Value} {G' : Gh} {bk' : List Blk} {w' : World} (t : Trn G bk w G' bk' w') (m : Mem C G' bk' w') (hx : RepA G' bk' w' x u) (hk : K x bk') : Out P C G bk w K (.ok (.value u) w')
  | skip {G' : Gh} {bk' : List Blk} {w' : World} (t : Trn G bk w G' bk' w') (m : Mem C G' bk' w') (hk : K .un bk') : Out P C G bk w K (.ok .skip w')
  | enter {f : FuncId} {us : Array Value} (h : Calls P f us w fun e w' => ∃ u x G' bk', e = .returned u ∧ Trn G bk w G' bk' w' ∧ Mem C G' bk' w' ∧ RepA G' bk' w' x u ∧ K x bk') : Out P C G bk w K (.ok (.enter f us) w)

theorem Out.of {K : AV → List Blk → Prop} {r : Result Next} {x : AV} {u : Value} (hm : Mem C G bk w) (hr : r = .ok (.value u) w) (hx : RepA G bk w x u) (hk : K x bk) : Out P C G bk w K r := by
  subst hr; exact .value (Trn.refl _ _ _) hm hx hk

theorem fldOff_spec (hT : TabOK P T) {s : TypeId} {f off : Nat} (h : fldOff T s f = some off) : ∃ (F : Array Field) (fl : Field) (i : TypeInfo), P.underlying s = some (.struct F) ∧ F[f]? = some fl ∧ fl.offset = off ∧ P.info? fl.type = some i ∧ i.size ≠ 0 := by
  unfold fldOff at h
  split at h
  · rename_i fs size bytes zero hs
    obtain ⟨F, h1, h2, _⟩ := (hT s _ hs).strct fs rfl
    split at h
    · rename_i o t hf
      split at h
      · rename_i ty ht
        cases hz : Nat.beq ty.size 0 with
        | true => rw [hz] at h; cases h
        | false =>
          rw [hz] at h
          simp only [cond_false, Option.some.injEq] at h
          subst h
          rw [← h2, List.getElem?_map, Option.map_eq_some_iff] at hf
          obtain ⟨fl, hfl, he⟩ := hf
          cases he
          obtain ⟨i, z, hi, hsz, _⟩ := (hT _ ty ht).info
          refine ⟨F, fl, i, h1, by simpa using hfl, rfl, hi, fun e => ?_⟩
          rw [← hsz, e] at hz
          cases hz
      · cases h
    · cases h
  · cases h
theorem run_fieldAt (hT : TabOK P T) {s : TypeId} {f off : Nat} (h : fldOff T s f = some off) (g o : Nat) (w : World) : (Instr.fieldAt s (.pointer (some ⟨g, o, none⟩)) f).run P w = .ok (.pointer (some ⟨g, o + off, none⟩)) w := by
  obtain ⟨F, fl, i, h1, h2, rfl, h4, h5⟩ := fldOff_spec hT h
  simp [Instr.fieldAt, run_underlying h1, h2, Instr.sureAddr, fieldPlace, sizeOf, typeInfo, h4, h5, Addr.add_lit]

theorem elemOf_spec (hT : TabOK P T) {t e : TypeId} {te : Ty} (h : elemOf? T t = some (e, te)) : P.underlying t = some (.slice e) ∧ T.find e = some te ∧ ∃ tt, T.find t = some tt ∧ tt.d = .slice e := by
  unfold elemOf? at h
  split at h
  · rename_i e' a b c ht
    rw [Option.map_eq_some_iff] at h
    obtain ⟨te', h1, h2⟩ := h
    cases h2
    exact ⟨(hT t _ ht).slice _ rfl, h1, _, ht, rfl⟩
  · cases h
theorem isStr_spec (hT : TabOK P T) {t : TypeId} (h : isStr T t = true) : P.underlying t = some .string := by
  unfold isStr at h
  split at h
  · rename_i ht; exact (hT t _ ht).str rfl
  · cases h
theorem isBoolT_spec {t : TypeId} (h : isBoolT T t = true) : ∃ ty, T.find t = some ty ∧ ty.d = .bool := by
  unfold isBoolT at h
  split at h
  · rename_i ht; exact ⟨_, ht, rfl⟩
  · cases h
theorem isBytes_spec (hT : TabOK P T) {t : TypeId} (h : isBytes T t = true) : ∃ e, P.underlying t = some (.slice e) ∧ P.underlying e = some (.int .u8) := by
  unfold isBytes at h
  split at h
  · rename_i e a b c he
    obtain ⟨h1, h2, _⟩ := elemOf_spec hT he
    exact ⟨e, h1, (hT e _ h2).int _ rfl⟩
  · cases h
theorem str_kinds {t : TypeId} (h : isStr T t = true) : intKind T t = none ∧ isBytes T t = false := by
  unfold isStr at h
  split at h
  · rename_i ht; exact ⟨by unfold intKind; rw [ht], by unfold isBytes elemOf?; rw [ht]⟩
  · cases h
theorem bytes_kinds {t : TypeId} (h : isBytes T t = true) : intKind T t = none ∧ isStr T t = false := by
  unfold isBytes elemOf? at h
  split at h
  · rename_i hh
    split at hh
    · rename_i ht; exact ⟨by unfold intKind; rw [ht], by unfold isStr; rw [ht]⟩
    · cases hh
  · cases h
theorem intKind_spec (hT : TabOK P T) {t : TypeId} {k : IntKind} (h : intKind T t = some k) : P.underlying t = some (.int k) := by
  unfold intKind at h
  split at h
  · rename_i ht; cases h; exact (hT t _ ht).int _ rfl
  · cases h

theorem sc_rep {v u : Value} (h : RepA G bk w (sc v) u) : u = v ∧ v.oneCell' = true := by
  have h' : RepP G.S w (.sc v) u := h
  cases h'
  exact ⟨rfl, by assumption⟩
theorem rep_sc {v : Value} (h : v.oneCell' = true) : RepA G bk w (sc v) v := RepP.sc v h

theorem eqV_sound (hT : TabOK P T) (d : Nat) (w : World) {t : TypeId} {u v : Value} {b : Bool} (h : eqV T t u v = some b) : (Op.equalIn (d + 1) t u v).run P w = .ok b w ∧ (isAgg t).run P w = .ok false w := by
  unfold eqV at h
  split at h
  · rename_i ht
    split at h
    · rename_i e
      subst e
      cases h
      exact ⟨run_equalIn_int w d t _ _ _ _ ((hT _ _ ht).int _ rfl), run_isAgg hT ht w⟩
    · cases h
  · rename_i ht
    cases h
    exact ⟨run_equalIn_bool' w d t _ _ ((hT _ _ ht).bool rfl), run_isAgg hT ht w⟩
  · rename_i ht
    cases h
    exact ⟨by rw [beq_toListBytes]; exact run_equalIn_string w d t _ _ ((hT _ _ ht).str rfl), run_isAgg hT ht w⟩
  · cases h
theorem eqFields_sound (hT : TabOK P T) (d : Nat) (w : World) : ∀ (fs : List Field) (i : Nat) (ls ms : List Lf) (xs ys : Array Value) (r : Bool), (∀ f ∈ fs, f.name ≠ "_") →
    Fa (RepL G bk w) ls (xs.toList.drop i) → Fa (RepL G bk w) ms (ys.toList.drop i) → eqFs T i (fs.map fun (f : Field) => (f.offset, f.type)) ls ms = some r → (Op.eqFields (d + 1) xs ys fs).run P w = .ok r w
  | [], i, ls, ms, xs, ys, r, _, hx, hy, h => by
    cases ls <;> cases ms <;> simp [eqFs] at h
    subst h
    rfl
  | f :: fs, i, ls, ms, xs, ys, r, hn, hx, hy, h => by
    cases ls with
    | nil => simp [eqFs] at h
    | cons l ls =>
      cases ms with
      | nil => cases l with
        | pv p => cases p <;> simp [eqFs] at h
        | _ => simp [eqFs] at h
      | cons m ms =>
        cases l with
        | pv p =>
          cases p with
          | sc p =>
            cases m with
            | pv q =>
              cases q with
              | sc q =>
                simp only [List.map_cons, eqFs] at h
                cases hb : Nat.beq f.offset i with
                | false => rw [hb] at h; cases h
                | true =>
                  have ho : f.offset = i := Nat.eq_of_beq_eq_true hb
                  rw [hb] at h
                  simp only [cond_true] at h
                  cases hv : eqV T f.type p q with
                  | none => rw [hv] at h; cases h
                  | some b =>
                    rw [hv] at h
                    simp only at h
                    obtain ⟨r', h1, rfl⟩ := Option.map_eq_some_iff.1 h
                    obtain ⟨hq, hagg⟩ := eqV_sound hT d w hv
                    cases hxe : xs.toList.drop i with
                    | nil => rw [hxe] at hx; exact hx.elim
                    | cons u us =>
                      cases hye : ys.toList.drop i with
                      | nil => rw [hye] at hy; exact hy.elim
                      | cons v vs =>
                        rw [hxe] at hx
                        rw [hye] at hy
                        have e1 : u = p := (sc_rep (G := G) (bk := bk) (w := w) hx.1).1
                        have e2 : v = q := (sc_rep (G := G) (bk := bk) (w := w) hy.1).1
                        subst e1 e2
                        have hpart : ∀ (zs : Array Value) (u : Value) (us : List Value), zs.toList.drop i = u :: us → (part f.type zs f.offset).run P w = .ok u w := fun zs u us e => by
                          have hg : zs[i]? = some u := by
                            have : (zs.toList.drop i)[0]? = some u := by rw [e]; rfl
                            simpa using this
                          unfold part
                          rw [Sem.run_bind, hagg, Result.andThen_ok]
                          simp [ho, hg]
                        have hdrop : ∀ (zs : Array Value) (u : Value) (us : List Value), zs.toList.drop i = u :: us → zs.toList.drop (i + 1) = us := fun zs u us e => by
                          rw [← List.drop_drop, e]; rfl
                        have ih := eqFields_sound hT d w fs (i + 1) ls ms xs ys r' (fun g hg => hn g (by simp [hg])) (by rw [hdrop xs u us hxe]; exact hx.2) (by rw [hdrop ys v vs hye]; exact hy.2) h1
                        simp only [Op.eqFields, Sem.run_ite, hn f (by simp), ne_eq, not_false_iff, if_true, Sem.run_bind, hpart xs u us hxe, hpart ys v vs hye, hq, Result.andThen_ok]
                        cases b with
                        | false => simp
                        | true => simp [ih]
              | sl => simp [eqFs] at h
            | _ => simp [eqFs] at h
          | sl => simp [eqFs] at h
        | _ => simp [eqFs] at h

theorem binX_sound {op : BinOp} {t : TypeId} {xo yo : Operand} {u v : Value} {K : AV → Prop} (h : binX op u v K) :
    ∃ r, (do eqGuard op t xo yo u v; binOp op t u v).run P w = .ok r w ∧ r.oneCell' = true ∧ K (sc r) := by
  have guard : (op = .add ∨ op = .quo ∨ op = .rem) → (eqGuard op t xo yo u v).run P w = .ok () w := fun h => by
    rcases h with rfl | rfl | rfl <;> simp [eqGuard]
  have guard2 : (op = .shl ∨ op = .shr ∨ op = .or ∨ op = .and) → (eqGuard op t xo yo u v).run P w = .ok () w := fun h => by
    rcases h with rfl | rfl | rfl | rfl <;> simp [eqGuard]
  unfold binX at h
  split at h
  · rename_i a b
    refine ⟨_, ?_, rfl, h.2⟩
    rw [Sem.run_bind, guard (.inl rfl), Result.andThen_ok]
    have e : IntKind.i64.max = 9223372036854775807 := rfl
    simp only [binOp, Op.stringOp, e]
    rw [if_neg (by have := h.1; omega)]
    rfl
  · rename_i a b
    obtain ⟨h1, h2, h3, h4⟩ := h
    refine ⟨_, ?_, rfl, h4⟩
    rw [Sem.run_bind, guard (.inr (.inl rfl)), Result.andThen_ok]
    have hle : a / b ≤ a := Int.ediv_le_self _ h1
    have hge : 0 ≤ a / b := Int.ediv_nonneg h1 (by omega)
    have e1 : a.tdiv b = a / b := Int.tdiv_eq_ediv_of_nonneg h1
    have e2 : IntKind.i64.wrap (a / b) = a / b := by
      simp only [IntKind.wrap, IntKind.signed, IntKind.bits]
      have : (a / b) % 2 ^ 64 = a / b := Int.emod_eq_of_lt hge (by omega)
      simp only [this]
      rw [if_neg (by simp; omega)]
    simp only [binOp, Op.intDiv, ne_eq, not_true_eq_false, if_false, e1, e2]
    rw [if_neg (by omega)]
    rfl
  · rename_i a b
    obtain ⟨h1, h2, h3, h4⟩ := h
    refine ⟨_, ?_, rfl, h4⟩
    rw [Sem.run_bind, guard (.inr (.inr rfl)), Result.andThen_ok]
    have e1 : a.tmod b = a % b := Int.tmod_eq_emod_of_nonneg h1
    simp only [binOp, Op.intDiv, ne_eq, not_true_eq_false, if_false, e1]
    rw [if_neg (by omega)]
    rfl
  · rename_i a b
    obtain ⟨h1, h2, h4⟩ := h
    refine ⟨_, ?_, rfl, h4⟩
    rw [Sem.run_bind, guard (.inr (.inr rfl)), Result.andThen_ok]
    have e1 : a.tmod b = a % b := Int.tmod_eq_emod_of_nonneg h1
    simp only [binOp, Op.intDiv, ne_eq, not_true_eq_false, if_false, e1]
    rw [if_neg (by omega)]
    rfl
  · rename_i k a k' b
    obtain ⟨h1, h4⟩ := h
    refine ⟨_, ?_, rfl, h4⟩
    rw [Sem.run_bind, guard2 (.inl rfl), Result.andThen_ok]
    simp only [binOp, Op.shift]
    rw [if_neg (by omega)]
    rfl
  · rename_i k a k' b
    obtain ⟨h1, h4⟩ := h
    refine ⟨_, ?_, rfl, h4⟩
    rw [Sem.run_bind, guard2 (.inr (.inl rfl)), Result.andThen_ok]
    simp only [binOp, Op.shift]
    rw [if_neg (by omega)]
    rfl
  · rename_i k a k' b
    obtain ⟨rfl, h4⟩ := h
    refine ⟨_, ?_, rfl, h4⟩
    rw [Sem.run_bind, guard2 (.inr (.inr (.inl rfl))), Result.andThen_ok]
    simp only [binOp, Op.intBits, ne_eq, not_true_eq_false, if_false]
    rfl
  · rename_i k a k' b
    obtain ⟨rfl, h4⟩ := h
    refine ⟨_, ?_, rfl, h4⟩
    rw [Sem.run_bind, guard2 (.inr (.inr (.inr rfl))), Result.andThen_ok]
    simp only [binOp, Op.intBits, ne_eq, not_true_eq_false, if_false]
    rfl
  · exact h.elim

theorem binK_sound (hT : TabOK P T) {op : BinOp} {t : TypeId} {xo yo : Operand} {x y : AV} {u v : Value} (hx : RepA G bk w x u) (hy : RepA G bk w y v) {K : AV → Prop} (h : binK T op t x y K) :
    ∃ z r, (do eqGuard op t xo yo u v; binOp op t u v).run P w = .ok r w ∧ RepA G bk w z r ∧ K z := by
  unfold binK at h
  split at h
  · rename_i p q
    obtain ⟨rfl, _⟩ := sc_rep hx
    obtain ⟨rfl, _⟩ := sc_rep hy
    split at h
    · rename_i z hz
      have key : ∀ ty, T.find t = some ty → ((∃ p, u = .bool p) → ty.d = .bool) → K (sc z) → ∃ z' r, (do eqGuard op t xo yo u v; binOp op t u v).run P w = .ok r w ∧ RepA G bk w z' r ∧ K z' := fun ty ht hb hk => by
        obtain ⟨h1, h2⟩ := vBin_run hT ht hz hb w (x := xo) (y := yo)
        exact ⟨sc z, z, h1, rep_sc h2, hk⟩
      unfold tyB at h
      cases ht : T.find t with
      | none => rw [ht] at h; exact h.elim
      | some ty =>
        rw [ht] at h
        cases u with
        | bool p =>
          simp only at h
          cases hb : isBoolT T t with
          | false => rw [hb] at h; exact h.elim
          | true =>
            rw [hb] at h
            obtain ⟨ty', h1, h2⟩ := isBoolT_spec hb
            rw [ht] at h1
            cases h1
            exact key ty ht (fun _ => h2) h
        | _ => exact key ty ht (fun ⟨p, e⟩ => by cases e) h
    · obtain ⟨r, h1, h2, h3⟩ := binX_sound (P := P) (w := w) (t := t) (xo := xo) (yo := yo) h
      exact ⟨_, r, h1, rep_sc h2, h3⟩
  · rename_i ls ms
    obtain ⟨xs, rfl, hxs⟩ := hx
    obtain ⟨ys, rfl, hys⟩ := hy
    split at h
    · rename_i fs size bytes zero ht
      split at h
      · rename_i r hr
        obtain ⟨F, h1, h2, h3, h4, h5, _⟩ := (hT t _ ht).strct fs rfl
        have hf : P.fieldsOf t = F := by simp [Program.fieldsOf, h1]
        have he : (Op.equalIn 10000 t (.agg xs.toArray) (.agg ys.toArray)).run P w = .ok r w := by
          rw [run_equalIn_struct w 9999 t _ _ (by rw [hf]; exact h1) h4, hf]
          exact eqFields_sound hT 9998 w F.toList 0 ls ms _ _ r h3 (by simpa using hxs) (by simpa using hys) (by rw [h2]; exact hr)
        cases op <;> first | exact h.elim | skip
        · exact ⟨_, .bool r, by rw [Sem.run_bind, run_eqGuard_agg w _ t xo yo _ _ h5, Result.andThen_ok, run_eql_struct, he]; rfl, rep_sc rfl, h⟩
        · exact ⟨_, .bool (!r), by rw [Sem.run_bind, run_eqGuard_agg w _ t xo yo _ _ h5, Result.andThen_ok, run_neq_struct, he]; rfl, rep_sc rfl, h⟩
      · exact h.elim
    · exact h.elim
  · exact h.elim
end
end Go.Rx
