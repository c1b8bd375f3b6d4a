/- Regions that draw their order: whatever the order, what one plan tells comes of it. -/
import Derived.Test.YtooiiihaijpbaaaRx12
set_option linter.unusedVariables false
set_option linter.unusedSimpArgs false
namespace Go.Rx

section
variable {P : Program} {T : Tab} {ops : Array Oper}

theorem opV_congr {op : Op} {ρ ρ' : Operand → AV} {bk : List Blk} {K : AV → List Blk → Prop} (h : ∀ x ∈ op.operands, ρ x = ρ' x) : opV P T op ρ bk K = opV P T op ρ' bk K := by
  have pr : ∀ ps : Array (Nat × Operand), (∀ x ∈ (ps.toList.map (·.2)).toArray, ρ x = ρ' x) → (ps.toList.map fun p => (p.1, leaves (ρ p.2))) = ps.toList.map fun p => (p.1, leaves (ρ' p.2)) := fun ps hp =>
    List.map_congr_left fun p hm => by rw [hp p.2 (by simp only [List.mem_toArray]; exact List.mem_map_of_mem hm)]
  cases op with
  | move x => simp only [opV, h x (by simp [Op.operands])]
  | assign x => simp only [opV, h x (by simp [Op.operands])]
  | pick c x y => simp only [opV, h c (by simp [Op.operands]), h x (by simp [Op.operands]), h y (by simp [Op.operands])]
  | box t x => simp only [opV, h x (by simp [Op.operands])]
  | build t ps => simp only [opV, pr ps (by simpa [Op.operands] using h)]
  | buildSlice t n ps => simp only [opV, pr ps (by simpa [Op.operands] using h)]
  | load t p => simp only [opV, h p (by simp [Op.operands])]
  | store t p x => simp only [opV, h p (by simp [Op.operands]), h x (by simp [Op.operands])]
  | nilCheck x => simp only [opV, h x (by simp [Op.operands])]
  | binOp op t x y yt => simp only [opV, h x (by simp [Op.operands]), h y (by simp [Op.operands])]
  | unOp op t x => simp only [opV, h x (by simp [Op.operands])]
  | convert s d x => simp only [opV, h x (by simp [Op.operands])]
  | slice t x lo hi mx =>
    cases mx with
    | some m => rfl
    | none =>
      have h1 : lo.map ρ = lo.map ρ' := by cases lo with
        | none => rfl
        | some y => simp [h y (by simp [Op.operands])]
      have h2 : hi.map ρ = hi.map ρ' := by cases hi with
        | none => rfl
        | some y => simp [h y (by simp [Op.operands])]
      simp only [opV, h x (by simp [Op.operands]), h1, h2]
  | fieldAddr s x f => simp only [opV, h x (by simp [Op.operands])]
  | indexAddr t x ix => simp only [opV, h x (by simp [Op.operands]), h ix (by simp [Op.operands])]
  | index t x ix => simp only [opV, h x (by simp [Op.operands]), h ix (by simp [Op.operands])]
  | extract x k => simp only [opV, h x (by simp [Op.operands])]
  | makeFunc fn first caps =>
    cases fn with
    | func f =>
      have h1 : caps.toList.map ρ = caps.toList.map ρ' := List.map_congr_left fun x hx => h x (by simp [Op.operands] at hx ⊢; exact .inr hx)
      simp only [opV, h1]
    | _ => rfl
  | call c =>
    obtain ⟨callee, args, tys⟩ := c
    have ha : ∀ x ∈ args.toList, ρ x = ρ' x := fun x hx => h x (by simp [Op.operands, Call.operands] at hx ⊢; exact .inr hx)
    cases callee with
    | value f =>
      have hf : ρ f = ρ' f := h f (by simp [Op.operands, Call.operands])
      simp only [opV, hf, List.map_congr_left ha]
    | invoke r m => rfl
    | builtin b =>
      simp only [opV]
      split
      · rename_i x t hc hx _
        rw [hx] at ha
        simp only [ha _ (List.mem_singleton.2 rfl)]
      · rename_i x t hc hx _
        rw [hx] at ha
        have e1 := ha _ (List.mem_cons_self)
        have e2 := ha _ (List.mem_cons_of_mem _ List.mem_cons_self)
        simp only [e1, e2]
      · rename_i hc; cases hc
      · rfl
  | _ => rfl

def AgreeOn (L : List Tmp) (sl sl' : Slots) : Prop := ∀ t ∈ L, sl t = sl' t
theorem AgreeOn.put {L : List Tmp} {sl : Slots} {d : Option Nat} {x : AV} (h : ∀ k, d = some k → k ∉ L) : AgreeOn L sl (putO sl d x) := fun t ht => by
  cases d with
  | none => rfl
  | some k =>
    have : t ≠ k := fun e => h k rfl (e ▸ ht)
    simp [putO, Rx.put, this]
theorem AgreeOn.symm {L : List Tmp} {sl sl' : Slots} (h : AgreeOn L sl sl') : AgreeOn L sl' sl := fun t ht => (h t ht).symm
theorem AgreeOn.trans {L : List Tmp} {a b c : Slots} (h : AgreeOn L a b) (k : AgreeOn L b c) : AgreeOn L a c := fun t ht => (h t ht).trans (k t ht)
theorem putO_comm {sl : Slots} {d e : Option Nat} {x y : AV} (h : ∀ k, d = some k → e ≠ some k) : putO (putO sl d x) e y = putO (putO sl e y) d x := by
  cases d with
  | none => rfl
  | some k => cases e with
    | none => rfl
    | some m =>
      have hne : k ≠ m := fun e => h k rfl (e ▸ rfl)
      funext t
      simp only [putO, Rx.put]
      by_cases h1 : t = k <;> by_cases h2 : t = m <;> simp_all
theorem Sim.trans {a b c : List Blk} (h : Sim a b) (k : Sim b c) : Sim a c := fun i sz rows hr => by
  obtain ⟨r1, h1, h2⟩ := h i sz rows hr
  obtain ⟨r2, h3, h4⟩ := k i sz r1 h1
  exact ⟨r2, h3, by omega⟩

theorem ev_agree {o : Oper} {sl sl' : Slots} (h : AgreeOn (o.looksAt ops) sl sl') : ∀ x ∈ o.op.operands, ev sl x = ev sl' x := fun x hx => by
  cases x with
  | tmp t => exact h t (List.mem_append_left _ (List.mem_filterMap.2 ⟨.tmp t, by simpa using hx, rfl⟩))
  | _ => rfl

/-- Operations whose value hangs on variables alone, as their operands are. -/
def pinB (op : Op) (ρ : Operand → AV) : Bool :=
  match op with
  | .move _ | .assign _ | .extract _ _ => true
  | .fieldAddr _ x _ => (match ρ x with | .lf (.ptr _ _) => true | .lf (.ro _) => true | _ => false)
  | .load _ x => (match ρ x with | .lf (.ptr _ _) => true | .lf (.ro _) => true | _ => false)
  | .slice _ x _ _ none => (match ρ x with | .lf (.pv _) => true | _ => false)
  | _ => false
theorem loadK_far {t : TypeId} {p : AV} {bk : List Blk} {K : AV → Prop} (hp : (∃ b off, p = .lf (.ptr b off)) ∨ ∃ l, p = .lf (.ro l)) (h : loadK T t p bk K) : ∃ x, K x ∧ ∀ bk', Far bk bk' → ∀ K' : AV → Prop, K' x → loadK T t p bk' K' := by
  unfold loadK at *
  cases ht : T.find t with
  | none => rw [ht] at h; exact h.elim
  | some ty =>
    rw [ht] at h
    simp only at h ⊢
    rcases hp with ⟨b, off, rfl⟩ | ⟨l, rfl⟩
    · simp only at h ⊢
      cases hb : bk[b]? with
      | none => rw [hb] at h; exact h.elim
      | some B =>
        rw [hb] at h
        cases B with
        | var cells =>
          simp only at h
          cases hc : (Nat.ble (off + ty.size) cells.length && (ty.d.agg || Nat.beq ty.size 1)) with
          | false => rw [hc] at h; exact h.elim
          | true =>
            rw [hc] at h
            refine ⟨_, h, fun bk' hf K' hk => ?_⟩
            obtain ⟨B', h1, h2⟩ := hf b _ hb (.inl ⟨_, rfl⟩)
            rw [h1]
            rcases h2 with rfl | h2
            · simp only [hc]; exact hk
            · simp only [frzB, Option.map_eq_some_iff] at h2
              obtain ⟨ps, h3, rfl⟩ := h2
              have := mapM_pv h3
              subst this
              rw [List.length_map] at hc
              simp only [hc, cond_true, ← List.map_drop, ← List.map_take] at hk ⊢
              exact hk
        | frv cells =>
          simp only at h
          cases hc : (Nat.ble (off + ty.size) cells.length && (ty.d.agg || Nat.beq ty.size 1)) with
          | false => rw [hc] at h; exact h.elim
          | true =>
            rw [hc] at h
            refine ⟨_, h, fun bk' hf K' hk => ?_⟩
            obtain ⟨B', h1, h2⟩ := hf b _ hb (.inr ⟨_, rfl⟩)
            rw [h1]
            have : B' = .frv cells := by
              rcases h2 with rfl | h2
              · rfl
              · simp [frzB] at h2; exact h2.symm
            subst this
            simp only [hc]
            exact hk
        | _ => exact h.elim
    · simp only at h ⊢
      cases hc : (Nat.ble ty.size l.length && (ty.d.agg || Nat.beq ty.size 1)) with
      | false => rw [hc] at h; exact h.elim
      | true => rw [hc] at h; exact ⟨_, h, fun _ _ K' hk => hk⟩
theorem opV_pin {op : Op} {ρ : Operand → AV} {bk : List Blk} {K : AV → List Blk → Prop} (hp : pinB op ρ = true) (h : opV P T op ρ bk K) : ∃ x, K x bk ∧ ∀ bk', Far bk bk' → ∀ K' : AV → List Blk → Prop, K' x bk' → opV P T op ρ bk' K' := by
  unfold pinB at hp
  cases op with
  | move x => exact ⟨_, h, fun _ _ _ k => k⟩
  | assign x => exact ⟨_, h, fun _ _ _ k => k⟩
  | extract x k =>
    simp only [opV] at h
    split at h
    · rename_i ts hx
      split at h
      · rename_i l hl; exact ⟨_, h, fun _ _ _ k => by simp only [opV, hx, hl]; exact k⟩
      · rename_i l hl; exact ⟨_, h, fun _ _ _ k => by simp only [opV, hx, hl]; exact k⟩
      · exact h.elim
    · exact h.elim
  | fieldAddr s x f =>
    simp only [opV] at h
    split at h
    · rename_i off hoff
      split at h
      · rename_i b o hx; exact ⟨_, h, fun _ _ _ k => by simp only [opV, hoff, hx]; exact k⟩
      · rename_i l hx; exact ⟨_, h, fun _ _ _ k => by simp only [opV, hoff, hx]; exact k⟩
      · rename_i b n i sz o hx; simp only [hx] at hp; cases hp
      · exact h.elim
    · exact h.elim
  | load t x =>
    simp only [opV] at h
    have hx : (∃ b off, ρ x = .lf (.ptr b off)) ∨ ∃ l, ρ x = .lf (.ro l) := by
      simp only at hp
      split at hp
      · rename_i b off hx; exact .inl ⟨b, off, hx⟩
      · rename_i l hx; exact .inr ⟨l, hx⟩
      · cases hp
    obtain ⟨y, h1, h2⟩ := loadK_far hx h
    exact ⟨y, h1, fun bk' hf K' k => by simp only [opV]; exact h2 bk' hf (fun x => K' x bk') k⟩
  | slice t x lo hi mx =>
    cases mx with
    | some m => cases hp
    | none =>
      simp only at hp
      split at hp
      · rename_i p hx
        simp only [opV, hx] at h
        cases p with
        | sc v =>
          cases v with
          | string s =>
            simp only at h
            cases hc : isStr T t with
            | false => rw [hc] at h; exact h.elim
            | true =>
              rw [hc] at h
              simp only [cond_true] at h
              split at h
              · rename_i l hh h1 h2; exact ⟨_, h.2.2.2, fun _ _ _ k => by simp only [opV, hx, hc, cond_true, h1, h2]; exact ⟨h.1, h.2.1, h.2.2.1, k⟩⟩
              · exact h.elim
          | _ => simp only [pvK] at h <;> exact h.elim
        | sl sz rows =>
          simp only [pvK] at h
          split at h
          · rename_i sz' rows' e te hq ht
            cases hq
            cases hc : Nat.beq te.size sz with
            | false => rw [hc] at h; exact h.elim
            | true =>
              rw [hc] at h
              simp only [cond_true] at h
              split at h
              · rename_i l hh h1 h2; exact ⟨_, h.2.2.2, fun _ _ _ k => by simp only [opV, hx, pvK, ht, hc, cond_true, h1, h2]; exact ⟨h.1, h.2.1, h.2.2.1, k⟩⟩
              · exact h.elim
          · exact h.elim
      · cases hp
  | _ => cases hp
/-- What came out of an operation in its region. -/
structure CameO (P : Program) (T : Tab) (ops : Array Oper) (o : Oper) (sl : Slots) (bk : List Blk) (K : Slots → List Blk → Prop) (x : AV) (b : List Blk) : Prop where
  got : K (putO sl o.dst x) b
  any : ∀ sl', AgreeOn (o.looksAt ops) sl sl' → ∀ K' : Slots → List Blk → Prop, K' (putO sl' o.dst x) b → arOp P T ops o sl' bk K'
  ext : eB T o.op = true → Ext bk b
  sim : sB T o.op = true → Sim bk b
  qn : qN T o.op = true → b = bk ∧ ∀ sl' bk', AgreeOn (o.looksAt ops) sl sl' → Sim bk bk' → ∀ K' : Slots → List Blk → Prop, K' (putO sl' o.dst x) bk' → arOp P T ops o sl' bk' K'
  qr : qR T o.op = true → b = bk ∧ ∀ sl' bk', AgreeOn (o.looksAt ops) sl sl' → Ext bk bk' → ∀ K' : Slots → List Blk → Prop, K' (putO sl' o.dst x) bk' → arOp P T ops o sl' bk' K'
  far : fB T o.op = true → Far bk b

theorem arOp_came {o : Oper} {sl : Slots} {bk : List Blk} {K : Slots → List Blk → Prop} (h : arOp P T ops o sl bk K) : ∃ x b, CameO P T ops o sl bk K x b := by
  -- carried out
  have runs : (∀ (sl' : Slots) (bk' : List Blk) (K' : Slots → List Blk → Prop), AgreeOn (o.looksAt ops) sl sl' → opV P T o.op (ev sl') bk' (fun x b => K' (putO sl' o.dst x) b) → arOp P T ops o sl' bk' K') →
      opV P T o.op (ev sl) bk (fun x b => K (putO sl o.dst x) b) → ∃ x b, CameO P T ops o sl bk K x b := fun hg hr => by
    obtain ⟨x, b, c⟩ := opV_came hr
    refine ⟨x, b, c.got, fun sl' ha K' hk => hg sl' bk K' ha ?_, c.ext, c.sim, fun hq => ⟨(c.qn hq).1, fun sl' bk' ha hs K' hk => hg sl' bk' K' ha ?_⟩, fun hq => ⟨(c.qr hq).1, fun sl' bk' ha hs K' hk => hg sl' bk' K' ha ?_⟩, c.far⟩
    · rw [← opV_congr (ev_agree ha)]; exact c.any _ hk
    · rw [← opV_congr (ev_agree ha)]; exact (c.qn hq).2 bk' hs _ hk
    · rw [← opV_congr (ev_agree ha)]; exact (c.qr hq).2 bk' hs _ hk
  have skips : (∀ (sl' : Slots) (bk' : List Blk) (K' : Slots → List Blk → Prop), AgreeOn (o.looksAt ops) sl sl' → K' (putO sl' o.dst (.tup [])) bk' → arOp P T ops o sl' bk' K') → K (putO sl o.dst (.tup [])) bk → ∃ x b, CameO P T ops o sl bk K x b := fun hg hk =>
    ⟨.tup [], bk, hk, fun sl' ha K' hk => hg sl' bk K' ha hk, fun _ => Ext.refl _, fun _ => Sim.refl _, fun _ => ⟨rfl, fun sl' bk' ha _ K' hk => hg sl' bk' K' ha hk⟩, fun _ => ⟨rfl, fun sl' bk' ha _ K' hk => hg sl' bk' K' ha hk⟩, fun _ => Far.refl _⟩
  unfold arOp guardK at h
  cases hgd : o.guard with
  | none =>
    rw [hgd] at h
    exact runs (fun sl' bk' K' _ hr => by unfold arOp guardK; rw [hgd]; exact hr) h
  | some jw =>
    obtain ⟨j, want⟩ := jw
    rw [hgd] at h
    simp only at h
    cases hs : gslot ops j with
    | none => rw [hs] at h; exact h.elim
    | some d =>
      rw [hs] at h
      simp only at h
      have hd : d ∈ o.looksAt ops := by
        unfold Oper.looksAt
        refine List.mem_append_right _ ?_
        rw [hgd]
        unfold gslot at hs
        simp [hs]
      split at h
      · rename_i b hb
        have same : ∀ sl' : Slots, AgreeOn (o.looksAt ops) sl sl' → sl' d = sc (.bool b) := fun sl' ha => (ha d hd).symm.trans hb
        cases b <;> cases want <;> simp only at h <;> rw [put_self hb] at h
        · exact runs (fun sl' bk' K' ha hr => by unfold arOp guardK; rw [hgd]; simp only [hs, same sl' ha]; rw [put_self (same sl' ha)]; exact hr) h
        · exact skips (fun sl' bk' K' ha hr => by unfold arOp guardK; rw [hgd]; simp only [hs, same sl' ha]; rw [put_self (same sl' ha)]; exact hr) h
        · exact skips (fun sl' bk' K' ha hr => by unfold arOp guardK; rw [hgd]; simp only [hs, same sl' ha]; rw [put_self (same sl' ha)]; exact hr) h
        · exact runs (fun sl' bk' K' ha hr => by unfold arOp guardK; rw [hgd]; simp only [hs, same sl' ha]; rw [put_self (same sl' ha)]; exact hr) h
      · rename_i hb
        have same : ∀ sl' : Slots, AgreeOn (o.looksAt ops) sl sl' → sl' d = .tup [] := fun sl' ha => (ha d hd).symm.trans hb
        exact skips (fun sl' bk' K' ha hr => by unfold arOp guardK; rw [hgd]; simp only [hs, same sl' ha]; exact hr) h
      · exact h.elim

/-! ### Any order -/
def arAt (P : Program) (T : Tab) (ops : Array Oper) (i : Nat) (K : Slots → List Blk → Prop) (sl : Slots) (bk : List Blk) : Prop :=
  match ops[i]? with
  | some o => arOp P T ops o sl bk K
  | none => K sl bk
def arAny (P : Program) (T : Tab) (ops : Array Oper) (K : Slots → List Blk → Prop) : Nat → Array Bool → Slots → List Blk → Prop
  | 0, listed, sl, bk => Region.ready .any ops listed = [] ∧ K sl bk
  | f + 1, listed, sl, bk => (Region.ready .any ops listed = [] → K sl bk) ∧ ∀ i ∈ Region.ready .any ops listed, arAt P T ops i (arAny P T ops K f (listed.setIfInBounds i true)) sl bk

theorem arAny_sound (hT : TabOK P T) {C : Ctx} {Q : Exit → Act → World → Prop} {K : Slots → List Blk → Prop} (hQ : ∀ a w, Ok C K a w → Q .normal a w) (hd : ∀ (i : Nat) (o : Oper), ops[i]? = some o → ∀ k, o.dst = some k → k < C.n) :
    ∀ (f : Nat) (listed : Array Bool) {G : Gh} {sl : Slots} {bk : List Blk} {a : Act} {w : World}, Rel C G sl bk a w → arAny P T ops K f listed sl bk → wpAny P .any ops Q f listed a w
  | 0, listed, G, sl, bk, a, w, hr, h => ⟨h.1, hQ _ _ ⟨G, sl, bk, h.2, hr⟩⟩
  | f + 1, listed, G, sl, bk, a, w, hr, h => by
    refine ⟨fun h0 => hQ _ _ ⟨G, sl, bk, h.1 h0, hr⟩, fun i hi => ?_⟩
    have h1 := h.2 i hi
    unfold wpOp
    unfold arAt at h1
    cases ho : ops[i]? with
    | none => rw [ho] at h1; exact arAny_sound hT hQ hd f _ hr h1
    | some o =>
      rw [ho] at h1
      simp only at h1 ⊢
      rcases arOp_sound (Q := Q) hT hr (hd i o ho) (fun a w ⟨G', sl', bk', hk', h'⟩ => arAny_sound hT hQ hd f (listed.setIfInBounds i true) h' hk') h1 with ⟨hw, h2⟩ | ⟨hw, h2⟩
      · rw [if_pos hw]; exact .inl h2
      · rw [if_neg (by simp [hw])]; exact h2

/-- Does oj wait for one of these? -/
def onB (oj : Oper) (l : List Nat) : Bool := oj.after.any fun e => Region.binds .any e && l.any (Nat.beq e.on)
/-- What waits for operation i, or for what waits for it. -/
def blk (ops : Array Oper) (i : Nat) (listed : Array Bool) : Nat → List Nat → List Nat
  | 0, l => l
  | n + 1, l => blk ops i listed n ((List.range ops.size).filter fun j => !(listed.getD j true) && (match ops[j]? with | some oj => onB oj (i :: l) | none => false))
def blkB (ops : Array Oper) (i : Nat) (listed : Array Bool) (l : List Nat) : Bool := l.all fun j => (match listed[j]? with | some b => !b | none => false) && (match ops[j]? with | some oj => onB oj (i :: l) | none => false)
/-- May operation i be taken first? Every other one that is left waits for it, or has nothing to do with it. -/
def frB (T : Tab) (ops : Array Oper) (i : Nat) (listed : Array Bool) : Bool :=
  match ops[i]? with
  | some oi => (qN T oi.op || qR T oi.op) && (blkB ops i listed (blk ops i listed ops.size []) && (List.range ops.size).all fun j =>
      Nat.beq j i || listed.getD j true || (blk ops i listed ops.size []).any (Nat.beq j) || (match ops[j]? with
        | some oj => oi.apart ops oj && (if qN T oi.op then sB T oj.op else eB T oj.op)
        | none => true))
  | none => false
/-- May operation i, whose value hangs on variables alone, be taken first? -/
def frF (T : Tab) (ops : Array Oper) (i : Nat) (listed : Array Bool) : Bool :=
  match ops[i]? with
  | some oi => oi.guard.isNone && (blkB ops i listed (blk ops i listed ops.size []) && (List.range ops.size).all fun j =>
      Nat.beq j i || listed.getD j true || (blk ops i listed ops.size []).any (Nat.beq j) || (match ops[j]? with
        | some oj => oi.apart ops oj && fB T oj.op
        | none => true))
  | none => false
/-- The class of what may happen beside an operation. -/
def Bes (T : Tab) (o : Oper) (bk bk' : List Blk) : Prop := if qN T o.op = true then Sim bk bk' else Ext bk bk'
theorem Bes.refl (o : Oper) (bk : List Blk) : Bes T o bk bk := by unfold Bes; split; exact Sim.refl _; exact Ext.refl _
theorem Bes.trans {o : Oper} {a b c : List Blk} (h : Bes T o a b) (k : Bes T o b c) : Bes T o a c := by
  unfold Bes at *
  by_cases hq : qN T o.op = true
  · rw [if_pos hq] at *; exact Sim.trans h k
  · rw [if_neg hq] at *; exact Ext.trans h k

theorem arAny_first {K : Slots → List Blk → Prop} {i : Nat} {oi : Oper} (hi : ops[i]? = some oi) {x : AV} {R : List Blk → List Blk → Prop} (hrefl : ∀ b, R b b) (htrans : ∀ {a b c}, R a b → R b c → R a c) {good : Oper → Bool} (hgood : ∀ (oj : Oper) (sl : Slots) (bk : List Blk) (K : Slots → List Blk → Prop) (y : AV) (b : List Blk), good oj = true → CameO P T ops oj sl bk K y b → R bk b) {Bk : Nat → Prop} (hbk : ∀ (j : Nat) (oj : Oper), ops[j]? = some oj → Bk j → ∃ e ∈ oj.after, Region.binds .any e = true ∧ (e.on = i ∨ Bk e.on)) : ∀ (f : Nat) (listed : Array Bool) (sl : Slots) (bk : List Blk),
    (∀ j, Bk j → listed[j]? = some false) →
    (∀ (j : Nat) (oj : Oper), ops[j]? = some oj → j ≠ i → listed.getD j true = false → ¬ Bk j → oi.apart ops oj = true ∧ good oj = true) →
    i ∈ Region.ready .any ops listed →
    (∀ sl' bk', AgreeOn (oi.looksAt ops) sl sl' → R bk bk' → ∀ K' : Slots → List Blk → Prop, K' (putO sl' oi.dst x) bk' → arOp P T ops oi sl' bk' K') →
    arAny P T ops K f (listed.setIfInBounds i true) (putO sl oi.dst x) bk → arAny P T ops K (f + 1) listed sl bk := by
  intro f
  induction f with
  | zero =>
    intro listed sl bk _ _ hr hq H
    refine ⟨fun h => (by rw [h] at hr; cases hr), fun j hj => ?_⟩
    by_cases hji : j = i
    · subst hji
      unfold arAt
      rw [hi]
      exact hq sl bk (fun _ _ => rfl) (hrefl _) _ H
    · have := ready_mono hj hji
      rw [H.1] at this
      cases this
  | succ f ih =>
    intro listed sl bk hun0 hfree hr hq H
    refine ⟨fun h => (by rw [h] at hr; cases hr), fun j hj => ?_⟩
    by_cases hji : j = i
    · subst hji
      unfold arAt
      rw [hi]
      exact hq sl bk (fun _ _ => rfl) (hrefl _) _ H
    · have h1 := H.2 j (ready_mono hj hji)
      obtain ⟨hjun, oj, hoj, hall⟩ := mem_ready.1 hj
      have hnot : ¬ Bk j := fun hB => by
        obtain ⟨e, he, hb, heq⟩ := hbk j oj hoj hB
        have h1 := hall e he hb
        rcases heq with heq | heq
        · have h0 := (mem_ready.1 hr).1
          rw [heq] at h1
          rcases Nat.lt_or_ge i listed.size with h' | h'
          · simp [h'] at h0 h1; rw [h0] at h1; cases h1
          · simp [Array.getElem?_eq_none h'] at h1
        · have h0 := hun0 _ heq
          simp [h0] at h1
      obtain ⟨hap, hcl⟩ := hfree j oj hoj hji hjun hnot
      obtain ⟨a1, a2, a3⟩ := Oper.apart_spec hap
      unfold arAt at h1 ⊢
      rw [hoj] at h1 ⊢
      simp only at h1 ⊢
      obtain ⟨xj, bj, c⟩ := arOp_came h1
      have hbes : R bk bj := hgood oj _ bk _ xj bj hcl c
      refine c.any sl (AgreeOn.put a1).symm _ ?_
      refine ih _ _ _ (fun k hk => by rw [Array.getElem?_setIfInBounds_ne (fun e => hnot (by rw [e]; exact hk))]; exact hun0 k hk) (fun k ok hk hki hun hno => ?_) (ready_mono hr (Ne.symm hji)) (fun sl' bk' hag hb K' hk' => hq sl' bk' ((AgreeOn.put a3).trans hag) (htrans hbes hb) K' hk') ?_
      · refine hfree k ok hk hki ?_ hno
        by_cases hjk : j = k
        · subst hjk; exact hjun
        · rw [getD_set_ne true hjk] at hun; exact hun
      · have := c.got
        rw [putO_comm a2] at this
        rw [Array.setIfInBounds_comm _ _ hji]
        exact this

/-! ### A plan -/
inductive Pl where
  | done
  | pre (i : Nat) (p : Pl)
  | one (i : Nat) (p : Pl)
  | two (i : Nat) (p : Pl) (j : Nat) (q : Pl)
  | three (i : Nat) (p : Pl) (j : Nat) (q : Pl) (k : Nat) (r : Pl)
def plB (T : Tab) (ops : Array Oper) : Nat → Pl → Array Bool → Bool
  | _, .done, listed => (Region.ready .any ops listed).isEmpty
  | 0, _, _ => false
  | f + 1, .pre i p, listed => (Region.ready .any ops listed).contains i && frF T ops i listed && plB T ops f p (listed.setIfInBounds i true)
  | f + 1, .one i p, listed => (ops[i]?).isSome && (Region.ready .any ops listed).contains i && (decide (Region.ready .any ops listed = [i]) || frB T ops i listed) && plB T ops f p (listed.setIfInBounds i true)
  | f + 1, .two i p j q, listed => (ops[i]?).isSome && (ops[j]?).isSome && decide (Region.ready .any ops listed = [i, j]) && plB T ops f p (listed.setIfInBounds i true) && plB T ops f q (listed.setIfInBounds j true)
  | f + 1, .three i p j q k r, listed => decide (Region.ready .any ops listed = [i, j, k]) && plB T ops f p (listed.setIfInBounds i true) && plB T ops f q (listed.setIfInBounds j true) && plB T ops f r (listed.setIfInBounds k true)
def awpPl (P : Program) (T : Tab) (ops : Array Oper) (K : Slots → List Blk → Prop) : Pl → Slots → List Blk → Prop
  | .done, sl, bk => K sl bk
  | .pre i p, sl, bk => (match ops[i]? with | some o => (match pinB o.op (ev sl) with | true => arAt P T ops i (awpPl P T ops K p) sl bk | false => False) | none => False)
  | .one i p, sl, bk => arAt P T ops i (awpPl P T ops K p) sl bk
  | .two i p j q, sl, bk => arAt P T ops i (awpPl P T ops K p) sl bk ∧ arAt P T ops j (awpPl P T ops K q) sl bk
  | .three i p j q k r, sl, bk => arAt P T ops i (awpPl P T ops K p) sl bk ∧ arAt P T ops j (awpPl P T ops K q) sl bk ∧ arAt P T ops k (awpPl P T ops K r) sl bk
/-- The plan that is the text's order. -/
def seqPl (i : Nat) : Nat → Pl
  | 0 => .done
  | n + 1 => .one i (seqPl (i + 1) n)
def listPl : List Nat → Pl
  | [] => .done
  | i :: l => .one i (listPl l)

theorem arAt_mono {i : Nat} {sl : Slots} {bk : List Blk} {K K' : Slots → List Blk → Prop} (h : ∀ sl bk, K sl bk → K' sl bk) (hh : arAt P T ops i K sl bk) : arAt P T ops i K' sl bk := by
  unfold arAt at *
  cases ho : ops[i]? with
  | none => rw [ho] at hh; exact h _ _ hh
  | some o =>
    rw [ho] at hh
    obtain ⟨x, b, c⟩ := arOp_came hh
    exact c.any sl (fun _ _ => rfl) _ (h _ _ c.got)

theorem arAny_of_plan {K : Slots → List Blk → Prop} : ∀ (f : Nat) (p : Pl) (listed : Array Bool) (sl : Slots) (bk : List Blk), plB T ops f p listed = true → awpPl P T ops K p sl bk → arAny P T ops K f listed sl bk
  | 0, p, listed, sl, bk, hB, h => by
    cases p with
    | done => exact ⟨by simpa [plB] using hB, h⟩
    | _ => simp [plB] at hB
  | f + 1, p, listed, sl, bk, hB, h => by
    cases p with
    | done =>
      have h0 : Region.ready .any ops listed = [] := by simpa [plB] using hB
      exact ⟨fun _ => h, by rw [h0]; simp⟩
    | pre i p =>
      simp only [plB, Bool.and_eq_true, List.contains_iff_mem] at hB
      obtain ⟨⟨hc, hB1⟩, hB2⟩ := hB
      unfold frF at hB1
      cases hi : ops[i]? with
      | none => rw [hi] at hB1; cases hB1
      | some oi =>
        rw [hi] at hB1
        simp only [Bool.and_eq_true, Bool.or_eq_true, List.all_eq_true, List.mem_range] at hB1
        obtain ⟨hg, hbB, hall⟩ := hB1
        simp only [awpPl, hi] at h
        cases hpin : pinB oi.op (ev sl) with
        | false => rw [hpin] at h; exact h.elim
        | true =>
        rw [hpin] at h
        simp only [arAt, hi] at h
        have hgn : oi.guard = none := by simpa using hg
        unfold arOp guardK at h
        rw [hgn] at h
        obtain ⟨x, hx, hany⟩ := opV_pin hpin h
        have mem : ∀ {l : List Nat} {j : Nat}, l.any (Nat.beq j) = true → j ∈ l := fun {l j} h => by
          obtain ⟨y, hy, h2⟩ := List.any_eq_true.1 h
          rw [Nat.eq_of_beq_eq_true h2]; exact hy
        have bl := List.all_eq_true.1 hbB
        refine arAny_first hi (R := Far) Far.refl (fun h k => h.trans k) (good := fun oj => fB T oj.op) (fun oj sl bk K y b hcl c => c.far hcl) (Bk := fun j => j ∈ blk ops i listed ops.size []) (fun j oj hoj hB => ?_) f listed sl bk (x := x) (fun j hB => ?_) (fun j oj hoj hji hun hno => ?_) hc (fun sl' bk' ha hbs K' hk' => ?_) (arAny_of_plan f p _ _ _ hB2 hx)
        · have h1 := bl j hB
          rw [hoj] at h1
          simp only [Bool.and_eq_true] at h1
          obtain ⟨e, he, h2⟩ := Array.any_eq_true'.1 h1.2
          simp only [Bool.and_eq_true] at h2
          refine ⟨e, he, h2.1, ?_⟩
          have := mem h2.2
          simpa using this
        · have h1 := bl j hB
          simp only [Bool.and_eq_true] at h1
          have h2 := h1.1
          cases hl : listed[j]? with
          | none => rw [hl] at h2; cases h2
          | some v => rw [hl] at h2; simp at h2; rw [h2]
        · have hjl : j < ops.size := (Array.getElem?_eq_some_iff.1 hoj).1
          rcases hall j hjl with ((h1 | h1) | h1) | h1
          · exact absurd (Nat.eq_of_beq_eq_true h1) hji
          · rw [hun] at h1; cases h1
          · exact absurd (mem h1) hno
          · rw [hoj] at h1
            simp only [Bool.and_eq_true] at h1
            exact h1
        · unfold arOp guardK
          rw [hgn]
          show opV P T oi.op (ev sl') bk' (fun x bk => K' (putO sl' oi.dst x) bk)
          rw [← opV_congr (ev_agree ha)]
          exact hany bk' hbs (fun x b => K' (putO sl' oi.dst x) b) hk'
    | one i p =>
      simp only [plB, Bool.and_eq_true, Bool.or_eq_true, decide_eq_true_eq, List.contains_iff_mem] at hB
      obtain ⟨⟨⟨hs, hc⟩, hB1⟩, hB2⟩ := hB
      obtain ⟨oi, hi⟩ := Option.isSome_iff_exists.1 hs
      rcases hB1 with hB1 | hB1
      · refine ⟨fun h0 => (by rw [h0] at hc; cases hc), fun j hj => ?_⟩
        rw [hB1] at hj
        obtain rfl : j = i := by simpa using hj
        exact arAt_mono (fun sl bk h => arAny_of_plan f p _ sl bk hB2 h) h
      · unfold frB at hB1
        rw [hi] at hB1
        simp only [Bool.and_eq_true, Bool.or_eq_true, List.all_eq_true, List.mem_range] at hB1
        obtain ⟨hq, hbB, hall⟩ := hB1
        simp only [awpPl, arAt, hi] at h
        obtain ⟨x, b, c⟩ := arOp_came h
        have hb : b = bk := by
          rcases hq with hq | hq
          · exact (c.qn hq).1
          · exact (c.qr hq).1
        subst hb
        have mem : ∀ {l : List Nat} {j : Nat}, l.any (Nat.beq j) = true → j ∈ l := fun {l j} h => by
          obtain ⟨y, hy, h2⟩ := List.any_eq_true.1 h
          rw [Nat.eq_of_beq_eq_true h2]; exact hy
        have bl := List.all_eq_true.1 hbB
        refine arAny_first hi (R := Bes T oi) (Bes.refl oi) (fun h k => h.trans k) (good := fun oj => if qN T oi.op then sB T oj.op else eB T oj.op) (fun oj sl bk K y b hcl c => (by
          unfold Bes
          split
          · rename_i hqn; rw [if_pos hqn] at hcl; exact c.sim hcl
          · rename_i hqn; rw [if_neg hqn] at hcl; exact c.ext hcl)) (Bk := fun j => j ∈ blk ops i listed ops.size []) (fun j oj hoj hB => ?_) f listed sl b (x := x) (fun j hB => ?_) (fun j oj hoj hji hun hno => ?_) hc (fun sl' bk' ha hbs K' hk' => ?_) (arAny_of_plan f p _ _ _ hB2 c.got)
        · have h1 := bl j hB
          rw [hoj] at h1
          simp only [Bool.and_eq_true] at h1
          obtain ⟨e, he, h2⟩ := Array.any_eq_true'.1 h1.2
          simp only [Bool.and_eq_true] at h2
          refine ⟨e, he, h2.1, ?_⟩
          have := mem h2.2
          simpa using this
        · have h1 := bl j hB
          simp only [Bool.and_eq_true] at h1
          have h2 := h1.1
          cases hl : listed[j]? with
          | none => rw [hl] at h2; cases h2
          | some v => rw [hl] at h2; simp at h2; rw [h2]
        · have hjl : j < ops.size := (Array.getElem?_eq_some_iff.1 hoj).1
          rcases hall j hjl with ((h1 | h1) | h1) | h1
          · exact absurd (Nat.eq_of_beq_eq_true h1) hji
          · rw [hun] at h1; cases h1
          · exact absurd (mem h1) hno
          · rw [hoj] at h1
            simp only [Bool.and_eq_true] at h1
            exact h1
        · by_cases hqn : qN T oi.op = true
          · unfold Bes at hbs; rw [if_pos hqn] at hbs; exact (c.qn hqn).2 sl' bk' ha hbs K' hk'
          · unfold Bes at hbs; rw [if_neg hqn] at hbs
            rcases hq with hq | hq
            · exact absurd hq hqn
            · exact (c.qr hq).2 sl' bk' ha hbs K' hk'
    | two i p j q =>
      simp only [plB, Bool.and_eq_true, decide_eq_true_eq] at hB
      obtain ⟨⟨⟨_, hr⟩, hB1⟩, hB2⟩ := hB
      refine ⟨fun h0 => (by rw [h0] at hr; cases hr), fun k hk => ?_⟩
      rw [hr] at hk
      simp only [List.mem_cons, List.not_mem_nil, or_false] at hk
      rcases hk with rfl | rfl
      · exact arAt_mono (fun sl bk h => arAny_of_plan f p _ sl bk hB1 h) h.1
      · exact arAt_mono (fun sl bk h => arAny_of_plan f q _ sl bk hB2 h) h.2
    | three i p j q k r =>
      simp only [plB, Bool.and_eq_true, decide_eq_true_eq] at hB
      obtain ⟨⟨⟨hr, hB1⟩, hB2⟩, hB3⟩ := hB
      refine ⟨fun h0 => (by rw [h0] at hr; cases hr), fun n hn => ?_⟩
      rw [hr] at hn
      simp only [List.mem_cons, List.not_mem_nil, or_false] at hn
      rcases hn with rfl | rfl | rfl
      · exact arAt_mono (fun sl bk h => arAny_of_plan f p _ sl bk hB1 h) h.1
      · exact arAt_mono (fun sl bk h => arAny_of_plan f q _ sl bk hB2 h) h.2.1
      · exact arAt_mono (fun sl bk h => arAny_of_plan f r _ sl bk hB3 h) h.2.2

/-- A region that draws its order, by a plan. -/
theorem AW.draw {n : Fr} {id : Nat} {Q : Post} {sl : Slots} {bk : List Blk} (hT : TabOK P T) (hm : P.follows .mixedOrders = true) (p : Pl) (hp : plB T ops ops.size p (Array.replicate ops.size false) = true) (hd : dstB n.n (.region id ops true) = true)
    (h : awpPl P T ops (Q .normal) p sl bk) : AW P n (.region id ops true) Q sl bk := by
  refine ⟨fun C G a w hn hr => ?_⟩
  refine wp_region_any hm ?_
  obtain ⟨t, m⟩ := hr.mem.drew
  have hr' : Rel C G sl bk a w.drew := ⟨hr.size, hr.dfr, fun t' => t.repA (hr.slots t'), m⟩
  refine arAny_sound hT (K := Q .normal) (fun a w h => h) (fun i o ho k hk => ?_) _ _ hr' (arAny_of_plan _ p _ sl bk hp h)
  have := (Array.all_eq_true'.1 hd) o (Array.mem_of_getElem? ho)
  rw [hk] at this
  rw [hn.1]
  exact Nat.le_of_ble_eq_true this
end
end Go.Rx
