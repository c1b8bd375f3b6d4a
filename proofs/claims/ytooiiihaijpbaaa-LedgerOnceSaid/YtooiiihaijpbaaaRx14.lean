/- Is a slice nil? It may be where it has no rows; either way what follows must hold. -/
import Derived.Test.YtooiiihaijpbaaaRx13
import Derived.Lib.SliceRun
set_option linter.unusedVariables false
set_option linter.unusedSimpArgs false
namespace Go.Rx
open Go.RowKit
section
variable {P : Program} {T : Tab}
theorem AW.nilTest {n : Fr} {id d1 d2 t : Nat} {ty yt ty1 ty2 e : TypeId} {te : Ty} {p1 p2 : String} {af1 af2 : Array Edge} {Q : Post} {sl : Slots} {bk : List Blk} {sz : Nat} {rows : List (List PV)} (hT : TabOK P T) (he : elemOf? T ty = some (e, te))
    (h1 : sl t = .lf (.pv (.sl sz rows))) (hd : d1 < n.n ∧ d2 < n.n) (k1 : rows = [] → Q .normal (put (put sl d1 (sl t)) d2 (sc (.bool true))) bk) (k2 : Q .normal (put (put sl d1 (sl t)) d2 (sc (.bool false))) bk) :
    AW P n (.region id #[⟨some d1, .move (.tmp t), ty1, p1, af1, none⟩, ⟨some d2, .binOp .eql ty (.tmp d1) (.const (.slice none 0 0)) yt, ty2, p2, af2, none⟩] false) Q sl bk := by
  refine ⟨fun C G a w hn hr => wp_region_list ?_⟩
  have hu := (elemOf_spec hT he).1
  have go : ∀ (ops : Array Oper) (o : Oper) (l : List Oper) (a : Act) (w : World) (Qf : Exit → Act → World → Prop), o.guard = none → o.wp P a w (fun a w => wpList P ops Qf l a w) Qf → wpList P ops Qf (o :: l) a w := fun ops o l a w Qf hg h => by
    unfold wpList
    rw [if_pos (by unfold Region.wanted; rw [hg])]
    exact .inl h
  refine go _ _ _ _ _ _ rfl ?_
  have hv := hr.slots t
  have r1 := hr.put_of (Trn.refl _ _ _) hr.mem (x := sl t) (v := a.tmps.getD t undef) hv (some d1) (fun k hk => by cases hk; rw [hn.1]; exact hd.1)
  have e0 : (execOp a.eval ⟨some d1, .move (.tmp t), ty1, p1, af1, none⟩).run P w = .ok (.value (a.tmps.getD t undef)) w := rfl
  unfold Oper.wp
  rw [e0]
  generalize a.tmps.getD t undef = v at *
  have e2 : (a.put (some d1) v).eval (.tmp d1) = v := by
    show (a.put (some d1) v).tmps.getD d1 undef = v
    simp [Act.put, hr.size, hn.1, hd.1]
  rw [h1] at hv
  replace hv : RepP G.S w (.sl sz rows) v := hv
  refine go _ _ _ _ _ _ rfl ?_
  have fin : ∀ b : Bool, Q .normal (put (put sl d1 (sl t)) d2 (sc (.bool b))) bk → Ok C (Q .normal) ((a.put (some d1) v).put (some d2) (.bool b)) w := fun b hq =>
    ⟨G, _, bk, hq, r1.put_of (Trn.refl _ _ _) r1.mem (x := sc (.bool b)) (rep_sc rfl) (some d2) (fun k hk => by cases hk; rw [hn.1]; exact hd.2)⟩
  have ex : ∀ (o : Option Addr) (l c : Nat), v = .slice o l c → (execOp (a.put (some d1) v).eval ⟨some d2, .binOp .eql ty (.tmp d1) (.const (.slice none 0 0)) yt, ty2, p2, af2, none⟩).run P w = .ok (.value (.bool o.isNone)) w := fun o l c hvv => by
    have hq := Lib.run_eql_slice_nil (P := P) w ty e o l c 0 0 hu
    simp only [execOp]
    rw [e2, hvv]
    have e4 : (a.put (some d1) (Value.slice o l c)).eval (.const (.slice none 0 0)) = .slice none 0 0 := rfl
    rw [e4]
    simp [eqGuard, hq]
  unfold Oper.wp
  cases hv with
  | nil => rw [ex none 0 0 rfl]; exact fin true (k1 rfl)
  | emp => rw [ex _ _ _ rfl]; exact fin false k2
  | sl _ g o cap _ vs _ _ _ _ => rw [ex _ _ _ rfl]; exact fin false k2
/-- The same as awp, but what follows block z, or the statement whose first region is z - 1000, or region z - 2000, is left as it is: ways meet there. -/
def awpC (P : Program) (n : Fr) (T : Tab) (z : Nat) : Code → Post → Slots → List Blk → Prop
  | .skip, Q, sl, bk => Q .normal sl bk
  | .region id ops draw, Q, sl, bk =>
    (match draw with
     | false => awpOps P T ops ops.toList sl bk (Q .normal)
     | true => AW P n (.region id ops true) Q sl bk)
  | .seq (.block id a) b, Q, sl, bk => (match Nat.beq id z with | true => AW P n (.seq (.block id a) b) Q sl bk | false => awpC P n T z (.block id a) (thenQ (awpC P n T z b Q) Q) sl bk)
  | .seq (.seq (.region id ops draw) a) b, Q, sl, bk => (match Nat.beq (id + 1000) z with | true => AW P n (.seq (.seq (.region id ops draw) a) b) Q sl bk | false => awpC P n T z (.seq (.region id ops draw) a) (thenQ (awpC P n T z b Q) Q) sl bk)
  | .seq (.region id ops draw) b, Q, sl, bk => (match Nat.beq (id + 2000) z with | true => AW P n (.seq (.region id ops draw) b) Q sl bk | false => awpC P n T z (.region id ops draw) (thenQ (awpC P n T z b Q) Q) sl bk)
  | .seq a b, Q, sl, bk => awpC P n T z a (thenQ (awpC P n T z b Q) Q) sl bk
  | .cond c x y, Q, sl, bk =>
    (match ev sl c with
     | .lf (.pv (.sc (.bool b))) => (match b with | true => awpC P n T z x Q (know sl c true) bk | false => awpC P n T z y Q (know sl c false) bk)
     | _ => False)
  | .block id c, Q, sl, bk => awpC P n T z c (inBlk id Q) sl bk
  | .exit id, Q, sl, bk => Q (.exit id) sl bk
  | .ret, Q, sl, bk => Q .ret sl bk
  | c, Q, sl, bk => AW P n c Q sl bk
theorem aw_ofC {n : Fr} (hT : TabOK P T) (z : Nat) : ∀ {c : Code} {Q : Post} {sl : Slots} {bk : List Blk}, dstB n.n c = true → awpC P n T z c Q sl bk → AW P n c Q sl bk := by
  intro c
  induction c with
  | skip => intro Q sl bk hd h; exact aw_of hT hd h
  | region id ops draw => intro Q sl bk hd h; cases draw <;> exact aw_of hT hd h
  | seq x y ihx ihy =>
    intro Q sl bk hd h
    have hd' := hd
    simp only [dstB, Bool.and_eq_true] at hd
    cases x with
    | block id a =>
      simp only [awpC] at h
      cases hb : Nat.beq id z with
      | true => rw [hb] at h; exact h
      | false => rw [hb] at h; exact AW.seq (ihx hd.1 h) fun sl bk h => ihy hd.2 h
    | region id ops draw =>
      simp only [awpC] at h
      cases hb : Nat.beq (id + 2000) z with
      | true => rw [hb] at h; exact h
      | false => rw [hb] at h; exact AW.seq (ihx hd.1 (by simpa only [awpC] using h)) fun sl bk h => ihy hd.2 h
    | seq x1 x2 =>
      cases x1 with
      | region id ops draw =>
        simp only [awpC] at h
        cases hb : Nat.beq (id + 1000) z with
        | true => rw [hb] at h; exact h
        | false => rw [hb] at h; exact AW.seq (ihx hd.1 (by simpa only [awpC] using h)) fun sl bk h => ihy hd.2 h
      | _ => exact AW.seq (ihx hd.1 h) fun sl bk h => ihy hd.2 h
    | _ => exact AW.seq (ihx hd.1 h) fun sl bk h => ihy hd.2 h
  | cond c x y ihx ihy =>
    intro Q sl bk hd h
    refine ⟨fun C G a w hn hr => ?_⟩
    simp only [dstB, Bool.and_eq_true] at hd
    simp only [awpC] at h
    split at h
    · rename_i b hb
      have h0 := ev_rep hr c
      rw [hb] at h0
      have h1 := (sc_rep h0).1
      cases b with
      | true => rw [know_self hb] at h; exact wp_cond_true h1 ((ihx hd.1 h).out C G a w hn hr)
      | false => rw [know_self hb] at h; exact wp_cond_false h1 ((ihy hd.2 h).out C G a w hn hr)
    · exact h.elim
  | block id c ih => intro Q sl bk hd h; exact AW.block (ih hd h)
  | exit id => intro Q sl bk hd h; exact aw_of hT hd h
  | ret => intro Q sl bk hd h; exact aw_of hT hd h
  | _ => intro Q sl bk hd h; exact h
end
end Go.Rx
