/- The texts of the proof, part 3, in order. -/
import Derived.Test.YtfjllfjmggooeaaGreatDoorZb
import Derived.Laws.MakeOwn
import Derived.Laws.IdiomStrings
import Derived.Laws.BytesArg
import Derived.IntWalk
import Derived.Tactics
/- Each operation does what the table of operations says. -/
set_option linter.unusedVariables false
set_option linter.unusedSimpArgs false
namespace Go.Rx
open Go.RowKit

section
variable {P : Program} {T : Tab} {C : Ctx} {G : Gh} {sl : Nat → AV} {bk : List Blk} {a : Act} {w : World}

theorem run_zeroValue (hT : TabOK P T) {t : TypeId} {ty : Ty} (ht : T.find t = some ty) (w : World) : ∃ z, (zeroValue t).run P w = .ok z w ∧ z.cells.toList = ty.zero ∧ (z = .agg ty.zero.toArray ∨ ty.d.agg = false) := by
  obtain ⟨i, z, h1, h2, h3, h4, h5, h6⟩ := (hT t ty ht).info
  exact ⟨z, by simp [zeroValue, typeInfo, h1, h4], h5, h6⟩

theorem fa_parts {ρ : Operand → AV} {e : Operand → Value} (hr : ∀ x, RepA G bk w (ρ x) (e x)) : ∀ (l : List (Nat × Operand)),
    Fa (fun (p : Nat × Option (List Lf)) (v : Nat × Value) => p.1 = v.1 ∧ ∀ ls, p.2 = some ls → Fa (RepL G bk w) ls v.2.cells.toList ∧ v.2.cells.size = ls.length) (l.map fun p => (p.1, leaves (ρ p.2))) (l.map fun p => (p.1, e p.2))
  | [] => trivial
  | p :: l => ⟨⟨rfl, fun ls h => leaves_rep (hr p.2) h⟩, fa_parts hr l⟩

theorem fa_map {ρ : Operand → AV} {e : Operand → Value} (hr : ∀ x, RepA G bk w (ρ x) (e x)) : ∀ (l : List Operand), Fa (RepA G bk w) (l.map ρ) (l.map e)
  | [] => trivial
  | x :: l => ⟨hr x, fa_map hr l⟩

theorem chunk_get (sz : Nat) : ∀ (n : Nat) (l : List PV) (j : Nat), j < n → (chunk sz n l)[j]? = some ((l.drop (j * sz)).take sz)
  | 0, _, _, h => absurd h (Nat.not_lt_zero _)
  | n + 1, l, 0, _ => by simp [chunk]
  | n + 1, l, j + 1, h => by
    simp only [chunk, List.getElem?_cons_succ]
    rw [chunk_get sz n (l.drop sz) j (by omega), List.drop_drop, Nat.succ_mul, Nat.add_comm sz]
theorem chunk_length (sz : Nat) : ∀ (n : Nat) (l : List PV), (chunk sz n l).length = n
  | 0, _ => rfl
  | n + 1, l => by simp [chunk, chunk_length sz n]

theorem cell_back (hT : TabOK P T) {s d : TypeId} {z : ByteArray} (hs : isBytes T s = true) (hd : isStr T d = true) {g o cap : Nat} (hc : ∀ j (hj : j < z.data.size), w.cell? ⟨g, o + j, none⟩ = some (.int .u8 (z.data[j].toNat : Int))) :
    (convert s d (.slice (some ⟨g, o, none⟩) z.size cap)).run P w = .ok (.string z) w := by
  obtain ⟨ee, hs1, he⟩ := isBytes_spec hT hs
  have := run_convert_bytes_back (P := P) w s d ee ⟨g, o, none⟩ cap z.data.toList hs1 he (isStr_spec hT hd) (fun j hj => by rw [Addr.add_lit]; simpa using hc j (by simpa using hj))
  have e1 : z.data.toList.length = z.size := by simp
  rw [e1] at this
  simpa using this
theorem bytes_back (hT : TabOK P T) {s d : TypeId} {z : ByteArray} (hs : isBytes T s = true) (hd : isStr T d = true) {v : Value} (h : RepP G.S w (.sl 1 (byteRows z)) v) : (convert s d v).run P w = .ok (.string z) w := by
  have hlen : (byteRows z).length = z.size := by simp [byteRows]
  generalize hrw : byteRows z = rows at h
  cases h with
  | nil =>
    obtain ⟨ee, hs1, he⟩ := isBytes_spec hT hs
    have hz : z.data = #[] := by
      have : z.data.toList = [] := by simpa [byteRows] using hrw
      simpa using this
    have : z = .empty := ByteArray.ext hz
    rw [run_convert_bytes_nil w s ee hs1 he 0 0 d (isStr_spec hT hd), this]
  | emp _ a cap =>
    obtain ⟨ee, hs1, he⟩ := isBytes_spec hT hs
    have hz : z.data.toList = [] := by simpa [byteRows] using hrw
    have := run_convert_bytes_back (P := P) w s d ee a cap z.data.toList hs1 he (isStr_spec hT hd) (fun j hj => by rw [hz] at hj; cases hj)
    rw [hz] at this
    have e2 : z = ⟨([] : List UInt8).toArray⟩ := ByteArray.ext (by simpa using hz)
    rw [e2]
    exact this
  | sl _ g o cap _ vs hc hu hm hr =>
    subst hrw
    rw [hlen]
    refine cell_back hT hs hd fun j hj => ?_
    have hj0 : (byteRows z)[j]? = some [.sc (.int .u8 (z.data[j].toNat : Int))] := by
      unfold byteRows
      rw [List.getElem?_map, List.getElem?_eq_getElem (by simpa using hj)]
      simp
    have h1 := (hm j _ 0 _ hj0 rfl).2
    have h2 := (sc_rep (G := G) (bk := []) (w := w) (hr j _ 0 _ hj0 rfl)).1
    rw [h2] at h1
    simpa using h1
theorem own_back (hT : TabOK P T) (hm : Mem C G bk w) {s d : TypeId} {z : ByteArray} {b : Nat} (hs : isBytes T s = true) (hd : isStr T d = true) (hb : rowsOf bk b = some (1, byteRows z)) {v : Value} (h : RepL G bk w (.own b (byteRows z).length) v) : (convert s d v).run P w = .ok (.string z) w := by
  have hlen : (byteRows z).length = z.size := by simp [byteRows]
  obtain ⟨ee, hs1, he⟩ := isBytes_spec hT hs
  have hj0 : ∀ j (hj : j < z.data.size), (byteRows z)[j]? = some [.sc (.int .u8 (z.data[j].toNat : Int))] := fun j hj => by
    unfold byteRows
    rw [List.getElem?_map, List.getElem?_eq_getElem (by simpa using hj)]
    simp
  have emp : (byteRows z).length = 0 → z = .empty := fun e => by
    rw [hlen] at e
    exact ByteArray.ext (Array.eq_empty_of_size_eq_zero e)
  obtain ⟨_, sz, rows, h2, _, h4⟩ := h
  rw [hb] at h2
  cases h2
  rcases h4 rfl with ⟨g, hg, rfl⟩ | ⟨_, hz, rfl⟩
  · rw [hlen]
    refine cell_back hT hs hd fun j hj => ?_
    unfold rowsOf at hb
    cases hbb : bk[b]? with
    | none => rw [hbb] at hb; cases hb
    | some B =>
      rw [hbb] at hb
      have h0 := hm.blk b B hbb
      cases B with
      | arr ety sz' rows' =>
        simp at hb
        obtain ⟨rfl, rfl⟩ := hb
        rcases h0 with ⟨h0, _⟩ | ⟨g', cur, h0, ⟨fz, h1, _⟩, _, _, _, h5⟩
        · rw [hg] at h0; cases h0
        · rw [hg] at h0
          cases h0
          obtain ⟨u, hu, hru⟩ := (h5 j _ (hj0 j hj)).2 0 _ rfl
          cases hru
          rw [cell_of_row w _ _ _ _ _ h1, Nat.zero_add]
          simpa using hu
      | frz sz' rows' =>
        simp at hb
        obtain ⟨rfl, rfl⟩ := hb
        rcases h0 with ⟨h0, _⟩ | ⟨g', h0, _, h5⟩
        · rw [hg] at h0; cases h0
        · rw [hg] at h0
          cases h0
          obtain ⟨_, u, hu, hru⟩ := (h5 j _ (hj0 j hj)).2 0 _ rfl
          cases hru
          rw [Nat.zero_add]
          simpa using hu
      | lost sz' rows' => exact absurd ((show G.M b = none from h0).symm.trans hg) (by simp)
      | _ => simp at hb
  · rw [run_convert_bytes_nil w s ee hs1 he 0 0 d (isStr_spec hT hd), emp hz]
theorem run_markStringish (w : World) (g : Nat) : ∃ w', (markStringish ⟨g, 0, none⟩).run P w = .ok () w' ∧ (∀ g' o, w'.cell? ⟨g', o, none⟩ = w.cell? ⟨g', o, none⟩) ∧ (∀ g', g' ≠ g → w'.heap[g']? = w.heap[g']?) ∧ w'.heap.size = w.heap.size ∧ w'.os = w.os ∧ w'.tape = w.tape ∧ w'.output = w.output := by
  unfold markStringish
  cases hs : w.shape? g with
  | none => exact ⟨w, by simp [hs], fun _ _ => rfl, fun _ _ => rfl, rfl, rfl, rfl, rfl⟩
  | some x =>
    have hget : ∀ g', (w.freeze ⟨g, x.2, none⟩ 1).heap[g']? = if g = g' then (w.heap[g']?).map fun
        | .cells c elem (lo, hi) => .cells c elem (if lo == hi then (x.2, x.2 + 1) else (min lo x.2, max hi (x.2 + 1)))
        | o => o else w.heap[g']? := fun g' => by
      unfold World.freeze
      rw [if_neg (by decide)]
      show (w.heap.modify g _)[g']? = _
      rw [Array.getElem?_modify]
      rfl
    refine ⟨w.freeze ⟨g, x.2, none⟩ 1, by simp [hs], fun g' o => ?_, fun g' hg' => ?_, ?_, ?_, ?_, ?_⟩
    · unfold World.cell?
      rw [hget]
      by_cases e : g = g'
      · rw [if_pos e]
        cases w.heap[g']? with
        | none => rfl
        | some ob => cases ob <;> rfl
      · rw [if_neg e]
    · rw [hget, if_neg (Ne.symm hg')]
    · unfold World.freeze
      rw [if_neg (by decide)]
      simp
    all_goals (unfold World.freeze; rw [if_neg (by decide)])
theorem opV_sound (hT : TabOK P T) (hm : Mem C G bk w) {ρ : Operand → AV} {e : Operand → Value} (hr : ∀ x, RepA G bk w (ρ x) (e x)) (o : Oper) {K : AV → List Blk → Prop} (h : opV P T o.op ρ bk K) :
    Out P C G bk w K ((execOp e o).run P w) := by
  obtain ⟨dst, op, type, pos, after, guard⟩ := o
  cases op with
  | move x => exact Out.of hm rfl (hr x) h
  | assign x => exact Out.of hm rfl (hr x) h
  | pick c x y =>
    simp only [opV] at h
    split at h
    · rename_i hc
      have := hr c
      rw [hc] at this
      obtain ⟨e1, _⟩ := sc_rep this
      exact Out.of hm (by simp [execOp, e1, asBool]) (hr x) h
    · rename_i hc
      have := hr c
      rw [hc] at this
      obtain ⟨e1, _⟩ := sc_rep this
      exact Out.of hm (by simp [execOp, e1, asBool]) (hr y) h
    · exact h.elim
  | alloc t =>
    simp only [opV] at h
    split at h
    · rename_i ty ht
      obtain ⟨z, hz, hzl, _⟩ := run_zeroValue hT ht w
      cases hbl : T.bld.any (Nat.beq t) with
      | true =>
        rw [hbl] at h
        simp only [cond_true] at h
        obtain ⟨G', t', hm', hM, _⟩ := hm.alloc (some (.cells z.cells t)) (.var (bldCells bk.length t ty.zero)) 0 (fun G' _ hM _ tr => by
          have hro : rowsOf (bk ++ [.var (bldCells bk.length t ty.zero)]) bk.length = none := by
            unfold rowsOf
            rw [List.getElem?_append_right (Nat.le_refl _)]
            simp
          refine ⟨w.heap.size, ty.zero, t, hM, ⟨by rw [← hzl, Array.toArray_toList]; exact heap_alloc_new w _, ?_⟩, ?_⟩
          · unfold bldCells
            split
            · intro t2 ht2
              rcases List.mem_cons.1 ht2 with e | e
              · cases e; rfl
              · obtain ⟨v, _, e⟩ := List.mem_map.1 e; cases e
            · intro t2 ht2
              obtain ⟨v, _, e⟩ := List.mem_map.1 ht2; cases e
          · have hone : ∀ v ∈ ty.zero, v.oneCell' = true := fun v hv => plainV_one ((hT t ty ht).zp v hv)
            have hf : ∀ l : List Value, (∀ v ∈ l, v.oneCell' = true) → Fa (RepL G' (bk ++ [.var (bldCells bk.length t ty.zero)]) (Option.elim (some (Obj.cells z.cells t)) w w.alloc)) (l.map lsc) l := fun l hl => fa_lsc hl
            generalize hB : Blk.var (bldCells bk.length t ty.zero) = B at hro hf ⊢
            generalize hz0 : ty.zero = l0 at hone
            unfold bldCells
            split
            · rename_i r
              exact ⟨⟨.inl rfl, by simp, hro⟩, hf r fun v hv => hone v (by simp [hv])⟩
            · exact hf _ hone)
        have hrun : (execOp e ⟨dst, .alloc t, type, pos, after, guard⟩).run P w = .ok (.value (.pointer (some ⟨w.heap.size, 0, none⟩))) (w.alloc (.cells z.cells t)) := by
          simp [execOp, Instr.alloc, hz, Go.newVar, Go.newRow]
        rw [hrun]
        refine .value (x := .lf (.ptr bk.length 0)) t' hm' ⟨⟨_, hM, rfl⟩, by simp, ?_⟩ h
        unfold rowsOf
        rw [List.getElem?_append_right (Nat.le_refl _)]
        simp
      | false =>
      rw [hbl] at h
      simp only [cond_false] at h
      obtain ⟨G', u, h1, h2, h3, h4⟩ := mem_newVar (P := P) hm t (ls := ty.zero.map lsc) (v := z) (by rw [hzl]; exact fa_lsc fun v hv => plainV_one ((hT t ty ht).zp v hv)) (by rw [List.all_map]; exact List.all_eq_true.2 fun v _ => rfl)
      have hrun : (execOp e ⟨dst, .alloc t, type, pos, after, guard⟩).run P w = .ok (.value (.pointer (some u))) (w.alloc (.cells z.cells t)) := by
        simp [execOp, Instr.alloc, hz, h1]
      rw [hrun]
      exact .value (x := .lf (.ptr bk.length 0)) h2 h3 h4 h
    · exact h.elim
  | box t x =>
    simp only [opV] at h
    split at h
    · rename_i ls hls
      obtain ⟨hf, _⟩ := leaves_rep (hr x) hls
      cases hno : ls.all notBad with
      | false => rw [hno] at h; exact h.elim
      | true =>
      rw [hno] at h
      simp only [cond_true] at h
      obtain ⟨G', u, h1, h2, h3, h4⟩ := mem_newVar (P := P) hm t hf hno
      have hrun : (execOp e ⟨dst, .box t x, type, pos, after, guard⟩).run P w = .ok (.value (.pointer (some u))) (w.alloc (.cells (e x).cells t)) := by
        simp [execOp, Instr.box, h1]
      rw [hrun]
      exact .value (x := .lf (.ptr bk.length 0)) h2 h3 h4 h
    · exact h.elim
  | build t parts =>
    simp only [opV] at h
    split at h
    · rename_i fs size bytes zero ht
      split at h
      · rename_i ls hls
        obtain ⟨F, h1, h2, h3, h4, h5, hall⟩ := (hT t _ ht).strct fs rfl
        obtain ⟨z, hz, hzl, _⟩ := run_zeroValue hT ht w
        -- every part that is filled has a place of its own
        let pl : Nat → Option (Nat × Nat) := fun i => (F[i]?).map fun f => (f.offset, P.cellsOf f.type)
        have hpl : ∀ i x, placeT T fs i = some x → pl i = some x := fun i x hx => by
          unfold placeT at hx
          split at hx
          · rename_i off t' hf
            split at hx
            · rename_i ty hty
              cases hx
              rw [← h2, List.getElem?_map, Option.map_eq_some_iff] at hf
              obtain ⟨f, hf1, hf2⟩ := hf
              cases hf2
              obtain ⟨i', z', hi, hs, _⟩ := (hT _ ty hty).info
              simp only [pl]
              rw [← Array.getElem?_toList, hf1]
              simp [Program.cellsOf, hi, hs]
            · cases hx
          · cases hx
        have hzf : Fa (RepL G bk w) (zero.map lsc) z.cells.toList := by rw [hzl]; exact fa_lsc fun v hv => plainV_one ((hT t _ ht).zp v hv)
        obtain ⟨rs, hrs, hfr⟩ := fill_sound hpl hzf (fa_parts hr parts.toList) hls
        refine Out.of (x := .agg ls) (u := .agg rs) hm ?_ ⟨rs.toList, by simp, hfr⟩ h
        have hpls := run_places hT h2 hall w
        have hget : ∀ i, (F.map fun (f : Field) => (f.offset, P.cellsOf f.type))[i]? = pl i := fun i => by simp [pl]
        simp only [execOp, Instr.build, Sem.run_bind, hz, Result.andThen_ok, run_underlying h1, hpls, hget]
        have hl : (parts.map fun x => (match x with | (i, x) => (i, e x))).toList = parts.toList.map fun p => (p.1, e p.2) := by simp
        rw [hl]
        have hpl' : (fun i => pl i) = pl := rfl
        simp only [hrs]
        rfl
      · exact h.elim
    · exact h.elim
  | load t p =>
    simp only [opV] at h
    obtain ⟨x, u, h1, h2, h3⟩ := loadK_sound hT hm (hr p) h
    exact Out.of hm (by simp [execOp, h1]) h2 h3
  | store t p x =>
    simp only [opV] at h
    obtain ⟨G', bk', w', h1, h2, h3, h4⟩ := storeK_sound hT hm (hr p) (hr x) h
    have hrun : (execOp e ⟨dst, .store t p x, type, pos, after, guard⟩).run P w = .ok .skip w' := by simp [execOp, h1]
    rw [hrun]
    exact .skip h2 h3 h4
  | nilCheck x =>
    simp only [opV] at h
    split at h
    · rename_i b o' hx
      have h0 := hr x
      rw [hx] at h0
      replace h0 : RepL G bk w (.ptr b o') (e x) := h0
      obtain ⟨⟨g, hg, e1⟩, h1⟩ := h0
      exact Out.of (x := .lf (.ptr b o')) hm (by simp [execOp, e1]) ⟨⟨g, hg, rfl⟩, h1⟩ h
    · rename_i l hx
      have h0 := hr x
      rw [hx] at h0
      replace h0 : RepL G bk w (.ro l) (e x) := h0
      obtain ⟨g, o', e1, h1⟩ := h0
      exact Out.of (x := .lf (.ro l)) hm (by simp [execOp, e1]) ⟨g, o', rfl, h1⟩ h
    · rename_i b n i sz o' hx
      have h0 := hr x
      rw [hx] at h0
      replace h0 : RepL G bk w (.ept b n i sz o') (e x) := h0
      obtain ⟨h1, rows, h2, h3, h4⟩ := h0
      rw [h2] at h
      obtain ⟨h5, h⟩ := h
      obtain ⟨g, hg, e1⟩ := h4 h5
      exact Out.of (x := .lf (.ept b n i sz o')) (u := .pointer (some ⟨g, i * sz + o', none⟩)) hm (by simp [execOp, e1]) ⟨rfl, rows, h2, h3, fun _ => ⟨g, hg, rfl⟩⟩ h
    · exact h.elim
  | binOp op t x y yt =>
    simp only [opV] at h
    have key : ∃ z r, (do eqGuard op t x y (e x) (e y); binOp op t (e x) (e y)).run P w = .ok r w ∧ RepA G bk w z r ∧ K z bk := by
      cases hc : isIfc T t with
      | true => rw [hc] at h; exact ifcK_sound hT hc (hr x) (hr y) h
      | false => rw [hc] at h; exact binK_sound hT (hr x) (hr y) h
    obtain ⟨z, r, h1, h2, h3⟩ := key
    refine Out.of hm (u := r) ?_ h2 h3
    simp only [execOp]
    rw [Sem.run_bind, h1]
    rfl
  | unOp op t x =>
    simp only [opV] at h
    split at h
    · rename_i u hx
      split at h
      · rename_i z hz
        have h0 := hr x
        rw [hx] at h0
        obtain ⟨e1, _⟩ := sc_rep h0
        obtain ⟨h1, h2⟩ := vUn_run (P := P) hz w
        exact Out.of hm (by simp [execOp, e1, h1]) (rep_sc h2) h
      · exact h.elim
    · exact h.elim
  | convert s d x =>
    simp only [opV] at h
    split at h
    · rename_i k n hx
      have h0 := hr x
      rw [hx] at h0
      obtain ⟨e1, _⟩ := sc_rep h0
      split at h
      · rename_i k1 k2 hs hd
        exact Out.of hm (by simp [execOp, convert, e1, run_underlying (intKind_spec hT hs), run_underlying (intKind_spec hT hd), Conv.intToInt]) (rep_sc rfl) h
      · exact h.elim
    · rename_i z hx
      have h0 := hr x
      rw [hx] at h0
      obtain ⟨e1, _⟩ := sc_rep h0
      cases hs : isStr T s with
      | false => rw [hs] at h; exact h.elim
      | true =>
        rw [hs] at h
        simp only [cond_true] at h
        cases hd : isStr T d with
        | true =>
          rw [hd] at h
          exact Out.of hm (by simp [execOp, convert, e1, run_underlying (isStr_spec hT hs), run_underlying (isStr_spec hT hd)]) (rep_sc rfl) h
        | false =>
          rw [hd] at h
          simp only [cond_false] at h
          cases hb : isBytes T d with
          | false => rw [hb] at h; exact h.elim
          | true =>
            rw [hb] at h
            simp only [cond_true] at h
            obtain ⟨ee, hd1, he⟩ := isBytes_spec hT hb
            have hrun := run_bytes_of_string w s d ee z (isStr_spec hT hs) hd1 he
            generalize hcap : grownCap w z.size 0 ee = cap at hrun
            have hge : z.size ≤ cap := by rw [← hcap]; exact grownCap_ge w z.size 0 ee
            obtain ⟨td, md⟩ := hm.drew
            have hlen : (byteRows z).length = z.size := by simp [byteRows]
            have hrow : ∀ j r c p, (byteRows z)[j]? = some r → r[c]? = some p → c = 0 ∧ ∃ hj : j < z.data.size, p = .sc (.int .u8 (z.data[j].toNat : Int)) := fun j r c p hj hp => by
              unfold byteRows at hj
              rw [List.getElem?_map, Option.map_eq_some_iff] at hj
              obtain ⟨b, hb1, rfl⟩ := hj
              have hc0 : c = 0 := by
                have := (List.getElem?_eq_some_iff.1 hp).1
                simpa using this
              subst hc0
              simp at hp
              have hjl := (List.getElem?_eq_some_iff.1 hb1).1
              simp at hjl
              refine ⟨rfl, hjl, ?_⟩
              rw [List.getElem?_eq_getElem (by simpa using hjl)] at hb1
              simp at hb1
              rw [← hp, ← hb1]
            have hrun2 : (execOp e ⟨dst, .convert s d x, type, pos, after, guard⟩).run P w = .ok (.value (.slice (some ⟨w.heap.size, 0, none⟩) z.size cap)) (w.drew.alloc (.cells (bytesRow z cap) ee ((bytesRow z cap).size, (bytesRow z cap).size + 1))) := by
              simp [execOp, e1, hrun]
            rcases h with h | ⟨hz, h⟩
            · obtain ⟨G1, t1, m1, hM, _⟩ := md.alloc (some (.cells (bytesRow z cap) ee ((bytesRow z cap).size, (bytesRow z cap).size + 1))) .dead 0 (fun _ _ _ _ _ => trivial)
              have hbk : (bk ++ [Blk.dead])[bk.length]? = some .dead := by rw [List.getElem?_append_right (Nat.le_refl _)]; simp
              obtain ⟨G2, t2, m2, hM2, _, hS2⟩ := m1.share bk.length .dead hbk (by unfold Alive; rw [hbk]; exact id) (fun _ _ => rfl) (fun _ _ => rfl) rfl rfl rfl rfl
              rw [hrun2]
              refine .value (x := .lf (.pv (.sl 1 (byteRows z)))) (td.trans (t1.trans t2)) m2 ?_ h
              show RepP G2.S _ (.sl 1 (byteRows z)) (.slice (some ⟨w.heap.size, 0, none⟩) z.size cap)
              rw [← hlen]
              refine .sl 1 w.heap.size 0 cap _ (fun j _ => .int .u8 ((z.data[j]?).getD 0).toNat) (by rw [hlen]; exact hge) (fun r hr' => ?_) (fun j r c p hj hp => ?_) (fun j r c p hj hp => ?_)
              · unfold byteRows at hr'
                rw [List.mem_map] at hr'
                obtain ⟨b, _, rfl⟩ := hr'
                rfl
              · obtain ⟨rfl, hjl, rfl⟩ := hrow j r c p hj hp
                refine ⟨?_, ?_⟩
                · rw [hS2]; exact .inr (by rw [hM]; rfl)
                · have := World.cell?_alloc_mark w.drew (bytesRow z cap) ee ((bytesRow z cap).size, (bytesRow z cap).size + 1) j
                  rw [bytesRow_at z cap j hjl] at this
                  rw [Nat.zero_add, Nat.mul_one, Nat.add_zero]
                  simp only [Option.elim, Array.getElem?_eq_getElem hjl, Option.getD_some]
                  exact this
              · obtain ⟨rfl, hjl, rfl⟩ := hrow j r c p hj hp
                simp only [Array.getElem?_eq_getElem hjl, Option.getD_some]
                exact .sc _ rfl
            · cases hel : elemOf? T d with
              | none => rw [hel] at h; exact h.elim
              | some q =>
                obtain ⟨e', te⟩ := q
                rw [hel] at h
                simp only at h
                have htx : txtB = true := by
                  cases htx : txtB with
                  | true => rfl
                  | false => rw [htx] at h; exact h.elim
                rw [htx] at h
                simp only at h
                obtain ⟨hd2, _, _⟩ := elemOf_spec hT hel
                have hee : e' = ee := by rw [hd1] at hd2; cases hd2; rfl
                subst hee
                have hsz : (bytesRow z cap).size = cap := by simp [bytesRow]; omega
                obtain ⟨G1, t1, m1, hM, hcp1⟩ := md.alloc (some (.cells (bytesRow z cap) e' ((bytesRow z cap).size, (bytesRow z cap).size + 1))) (.arr e' 1 (byteRows z)) cap (fun G' hS hM hcp tr => by
                  refine .inr ⟨w.heap.size, bytesRow z cap, hM, ⟨_, heap_alloc_new w.drew _, .inr ⟨htx, rfl⟩⟩, by rw [hcp, ← hcap]; exact grownCap_le_maxLen w z.size 0 e' (by simp only [maxLen]; omega), by rw [hcp, hsz, Nat.mul_one], by rw [hcp, hlen]; exact hge, fun j r hj => ?_⟩
                  have hr1 : r.length = 1 := by
                    have := List.mem_of_getElem? hj
                    unfold byteRows at this
                    rw [List.mem_map] at this
                    obtain ⟨b, _, rfl⟩ := this
                    rfl
                  refine ⟨hr1, fun c p hp => ?_⟩
                  obtain ⟨rfl, hjl, rfl⟩ := hrow j r c p hj hp
                  exact ⟨_, by rw [Nat.mul_one, Nat.add_zero]; exact bytesRow_at z cap j hjl, .sc _ rfl⟩)
                rw [hrun2]
                refine .value (x := .lf (.own bk.length z.size)) (td.trans t1) m1 ?_ h
                have hnew : (bk ++ [Blk.arr e' 1 (byteRows z)])[bk.length]? = some (.arr e' 1 (byteRows z)) := by rw [List.getElem?_append_right (Nat.le_refl _)]; simp
                exact ⟨rfl, 1, byteRows z, by unfold rowsOf; rw [hnew], by rw [hlen]; exact Nat.le_refl _, fun _ => .inl ⟨w.heap.size, by rw [hM]; rfl, by rw [hcp1]⟩⟩
    · rename_i sz rows hx
      have h0 := hr x
      rw [hx] at h0
      cases hb : (isBytes T s && isStr T d && Nat.beq sz 1) with
      | false => rw [hb] at h; exact h.elim
      | true =>
        rw [hb] at h
        simp only [cond_true] at h
        simp only [Bool.and_eq_true] at hb
        obtain ⟨z, rfl, h⟩ := h
        obtain rfl : sz = 1 := Nat.eq_of_beq_eq_true hb.2
        exact Out.of hm (by simp [execOp, bytes_back hT hb.1.1 hb.1.2 (h0 : RepP G.S w (.sl 1 (byteRows z)) (e x))]) (rep_sc rfl) h
    · rename_i hx
      have h0 := hr x
      rw [hx] at h0
      obtain ⟨e1, _⟩ := sc_rep h0
      cases hb : (isBytes T s && isStr T d) with
      | false => rw [hb] at h; exact h.elim
      | true =>
        rw [hb] at h
        simp only [Bool.and_eq_true] at hb
        obtain ⟨ee, hs1, he⟩ := isBytes_spec hT hb.1
        exact Out.of hm (by simp [execOp, e1, run_convert_bytes_nil w s ee hs1 he 0 0 d (isStr_spec hT hb.2)]) (rep_sc rfl) h
    · rename_i b len hx
      have h0 := hr x
      rw [hx] at h0
      replace h0 : RepL G bk w (.own b len) (e x) := h0
      cases hs : isBytes T s with
      | false => rw [hs] at h; exact h.elim
      | true =>
        rw [hs] at h
        simp only [cond_true] at h
        cases hd : isStr T d with
        | true =>
          rw [hd] at h
          simp only [cond_true] at h
          split at h
          · rename_i sz rows hrw
            cases hb : Nat.beq sz 1 with
            | false => rw [hb] at h; exact h.elim
            | true =>
              rw [hb] at h
              obtain rfl : sz = 1 := Nat.eq_of_beq_eq_true hb
              obtain ⟨rfl, z, rfl, h⟩ := h
              refine Out.of hm ?_ (rep_sc rfl) h
              simp [execOp, own_back hT hm hs hd hrw h0]
          · exact h.elim
        | false =>
          rw [hd] at h
          simp only [cond_false] at h
          cases hb : (isBytes T d && Nat.beq s d && Nat.blt 0 len) with
          | false => rw [hb] at h; exact h.elim
          | true =>
            rw [hb] at h
            simp only [cond_true] at h
            simp only [Bool.and_eq_true] at hb
            obtain rfl : s = d := Nat.eq_of_beq_eq_true hb.1.2
            obtain ⟨ee, hs1, he⟩ := isBytes_spec hT hs
            have hpos : 0 < len := Nat.le_of_ble_eq_true hb.2
            have key : ∀ (sz : Nat) (rows : List (List PV)) (G1 : Gh) (b1 : List Blk), Trn G bk w G1 b1 w → Mem C G1 b1 w → b1[b]? = some (.frz sz rows) → rows.length = len → K (.lf (.pv (.sl sz rows))) b1 →
                Out P C G bk w K ((execOp e ⟨dst, .convert s s x, type, pos, after, guard⟩).run P w) := fun sz rows G1 b1 t1 m1 hb1 hl hk => by
              have h1 := t1.repL h0
              obtain ⟨_, sz', rows', h2, _, h4⟩ := h1
              have er : rowsOf b1 b = some (sz, rows) := by unfold rowsOf; rw [hb1]
              rw [er] at h2
              cases h2
              rcases h4 hl with ⟨g, hg, hv⟩ | ⟨_, hz, _⟩
              · obtain ⟨w2, hrun, hc, ho, hsz, hos, htp, hou⟩ := run_markStringish (P := P) w g
                obtain ⟨G2, t2, m2, _, _, _⟩ := m1.share (w' := w2) b _ hb1 (by unfold Alive; rw [hb1]; exact id) hc (fun g' hg' => ho g' fun e => hg' (by rw [e]; exact hg)) hsz hos htp hou
                have hrun2 : (execOp e ⟨dst, .convert s s x, type, pos, after, guard⟩).run P w = .ok (.value (e x)) w2 := by
                  rw [hv]
                  simp [execOp, hv, convert, run_underlying hs1, run_underlying he, hrun]
                rw [hrun2]
                refine .value (t1.trans t2) m2 (x := .lf (.pv (.sl sz rows))) ?_ hk
                exact own_pv m2 hb1 (by rw [hl]; exact t2.repL (t1.repL h0))
              · omega
            simp only [pvK] at h
            split at h
            · rename_i ety sz rows hbb
              obtain ⟨hl, hk⟩ := h
              obtain ⟨G1, t1, m1, _, _, _⟩ := hm.frz b _ (.frz sz rows) hbb rfl
              exact key sz rows G1 _ t1 m1 (List.getElem?_set_self (List.getElem?_eq_some_iff.1 hbb).1) hl hk
            · rename_i sz rows hbb
              obtain ⟨hl, hk⟩ := h
              exact key sz rows G bk (Trn.refl _ _ _) hm hbb hl hk
            · exact h.elim
    · exact h.elim
  | fieldAddr s x f =>
    simp only [opV] at h
    split at h
    · rename_i off hoff
      split at h
      · rename_i b o' hx
        have h0 := hr x
        rw [hx] at h0
        replace h0 : RepL G bk w (.ptr b o') (e x) := h0
        obtain ⟨⟨g, hg, e1⟩, h1⟩ := h0
        exact Out.of (x := .lf (.ptr b (o' + off))) hm (by simp [execOp, e1, run_fieldAt hT hoff]) ⟨⟨g, hg, rfl⟩, h1⟩ h
      · rename_i l hx
        have h0 := hr x
        rw [hx] at h0
        replace h0 : RepL G bk w (.ro l) (e x) := h0
        obtain ⟨g, o', e1, h1⟩ := h0
        exact Out.of (x := .lf (.ro (l.drop off))) hm (by simp [execOp, e1, run_fieldAt hT hoff]) ⟨g, o' + off, rfl, h1.drop off⟩ h
      · rename_i b n i sz o' hx
        have h0 := hr x
        rw [hx] at h0
        replace h0 : RepL G bk w (.ept b n i sz o') (e x) := h0
        obtain ⟨h1, rows, h2, h3, h4⟩ := h0
        rw [h2] at h
        obtain ⟨h5, h⟩ := h
        obtain ⟨g, hg, e1⟩ := h4 h5
        exact Out.of (x := .lf (.ept b n i sz (o' + off))) (u := .pointer (some ⟨g, i * sz + (o' + off), none⟩)) hm (by simp [execOp, e1, run_fieldAt hT hoff, Nat.add_assoc]) ⟨rfl, rows, h2, h3, fun _ => ⟨g, hg, rfl⟩⟩ h
      · exact h.elim
    · exact h.elim
  | index t x ix =>
    simp only [opV] at h
    split at h
    · rename_i s k i hx hi
      have h0 := hr x
      rw [hx] at h0
      obtain ⟨e1, _⟩ := sc_rep h0
      have h1 := hr ix
      rw [hi] at h1
      obtain ⟨e2, _⟩ := sc_rep h1
      cases hb : isStr T t with
      | false => rw [hb] at h; exact h.elim
      | true =>
        rw [hb] at h
        obtain ⟨h2, c, h3, h4⟩ := h
        exact Out.of hm (by simp [execOp, Instr.index, e1, e2, asIntOf, run_underlying (isStr_spec hT hb), h2, h3]) (rep_sc rfl) h4
    · exact h.elim
  | extract x k =>
    simp only [opV] at h
    split at h
    · rename_i ts hx
      have h0 := hr x
      rw [hx] at h0
      obtain ⟨us, e1, hu⟩ := h0
      split at h
      · rename_i l hl
        obtain ⟨v, hv, hrv⟩ := hu.get hl
        exact Out.of (x := .lf l) hm (u := v) (by simp [execOp, e1, Instr.extract, hv]) hrv h
      · rename_i l hl
        obtain ⟨v, hv, hrv⟩ := hu.get hl
        exact Out.of (x := .agg l) hm (u := v) (by simp [execOp, e1, Instr.extract, hv]) hrv h
      · exact h.elim
    · exact h.elim
  | indexAddr t x ix =>
    simp only [opV] at h
    split at h
    · rename_i ee te k i hte hi
      obtain ⟨h1, h2, _⟩ := elemOf_spec hT hte
      have hi0 := hr ix
      rw [hi] at hi0
      obtain ⟨e2, _⟩ := sc_rep hi0
      have hsz := run_sizeOf hT h2 w
      split at h
      · rename_i sz rows hx
        have h0 := hr x
        rw [hx] at h0
        replace h0 : RepP G.S w (.sl sz rows) (e x) := h0
        cases hb : Nat.beq te.size sz with
        | false => rw [hb] at h; exact h.elim
        | true =>
          rw [hb] at h
          have es : te.size = sz := Nat.eq_of_beq_eq_true hb
          obtain ⟨hi1, r, hrr, h⟩ := h
          have hlt := (List.getElem?_eq_some_iff.1 hrr).1
          generalize hex : e x = v at h0
          cases h0 with
          | nil => simp at hlt
          | emp => simp at hlt
          | sl _ g o cap _ vs hc hu hmm hrp =>
            have hc1 : (i.toNat : Int) = i := Int.toNat_of_nonneg hi1
            have hin : 0 ≤ i ∧ i < rows.length := ⟨hi1, by omega⟩
            refine Out.of (x := .lf (.ro r)) (u := .pointer (some ⟨g, o + i.toNat * sz, none⟩)) hm ?_ ⟨g, _, rfl, fun c p hp => ?_⟩ h
            · simp [execOp, Instr.indexAt, e2, hex, asIntOf, run_underlying h1, hin, hsz, es, Addr.add_lit]
            · have := hmm i.toNat r c p hrr hp
              rw [Nat.add_assoc]
              exact ⟨this.1, _, this.2, hrp i.toNat r c p hrr hp⟩
      · rename_i b len hx
        have h0 := hr x
        rw [hx] at h0
        replace h0 : RepL G bk w (.own b len) (e x) := h0
        split at h
        · rename_i sz rows hrow
          cases hb : Nat.beq te.size sz with
          | false => rw [hb] at h; exact h.elim
          | true =>
            rw [hb] at h
            have es : te.size = sz := Nat.eq_of_beq_eq_true hb
            obtain ⟨hlen, hi1, hi2, h⟩ := h
            obtain ⟨_, sz', rows', h3, h4, h5⟩ := h0
            rw [hrow] at h3
            cases h3
            rcases h5 hlen with ⟨g, hg, ev⟩ | ⟨_, h6, _⟩
            · have hin : 0 ≤ i ∧ i < len := ⟨hi1, hi2⟩
              refine Out.of (x := .lf (.ept b len i.toNat sz 0)) (u := .pointer (some ⟨g, i.toNat * sz + 0, none⟩)) hm ?_ ⟨rfl, rows, hrow, by omega, fun _ => ⟨g, hg, rfl⟩⟩ h
              simp [execOp, Instr.indexAt, e2, ev, asIntOf, run_underlying h1, hin, hsz, es, Addr.add_lit]
            · omega
        · exact h.elim
      · exact h.elim
    · exact h.elim
  | slice t x lo hi mx =>
    cases mx with
    | some m => exact h.elim
    | none => ?_
    have hb : ∀ (y : Option Operand) (d n : Int), bnd (y.map ρ) d = some n → (y = none ∧ n = d) ∨ ∃ z k, y = some z ∧ e z = .int k n := fun y d n hy => by
      cases y with
      | none => simp [bnd] at hy; exact .inl ⟨rfl, hy.symm⟩
      | some z =>
        right
        simp only [Option.map_some, bnd] at hy
        split at hy
        · rename_i q hq; cases hq
        · rename_i q k n' hq
          cases hy
          have := hr z
          rw [Option.some.inj hq] at this
          exact ⟨z, k, rfl, (sc_rep this).1⟩
        · cases hy
    have bounds : ∀ (isS : Bool) (len cap : Nat) (l hh : Int), len ≤ cap → bnd (lo.map ρ) 0 = some l → bnd (hi.map ρ) len = some hh → 0 ≤ l → l ≤ hh → hh ≤ len →
        (Instr.sliceBounds isS len cap (lo.map e) (hi.map e) none).run P w = .ok (l.toNat, hh.toNat, cap) w := fun isS len cap l hh hc h1 h2 h3 h4 h5 => by
      have hhn : 0 ≤ hh := by omega
      have e1 : ((hh.toNat : Nat) : Int) = hh := Int.toNat_of_nonneg hhn
      rcases hb lo 0 l h1 with ⟨rfl, rfl⟩ | ⟨z, k, rfl, hz⟩ <;> rcases hb hi len hh h2 with ⟨rfl, rfl⟩ | ⟨z', k', rfl, hz'⟩
      · simp [Instr.sliceBounds]
      · have hin : 0 ≤ hh ∧ hh ≤ cap := ⟨hhn, by omega⟩
        simp [Instr.sliceBounds, Instr.sliceBound, hz', asIntOf, hin]
      · have hin : 0 ≤ l ∧ l ≤ len := ⟨h3, h4⟩
        simp [Instr.sliceBounds, Instr.sliceBound, hz, asIntOf, hin]
      · have hin : 0 ≤ hh ∧ hh ≤ cap := ⟨hhn, by omega⟩
        have hin2 : 0 ≤ l ∧ l ≤ hh := ⟨h3, h4⟩
        have e1' : max hh 0 = hh := by omega
        simp [Instr.sliceBounds, Instr.sliceBound, hz, hz', asIntOf, hin, hin2, e1, e1']
    simp only [opV] at h
    split at h
    · rename_i s hx
      have h0 := hr x
      rw [hx] at h0
      obtain ⟨e1, _⟩ := sc_rep h0
      cases hbs : isStr T t with
      | false => rw [hbs] at h; exact h.elim
      | true =>
        rw [hbs] at h
        simp only [cond_true] at h
        split at h
        case h_2 => exact h.elim
        rename_i l hh hl hhh
        obtain ⟨h1, h2, h3, hk⟩ := h
        have hbd := bounds false s.size s.size l hh (Nat.le_refl _) hl hhh h1 h2 h3
        refine Out.of (u := .string (s.extract l.toNat hh.toNat)) hm ?_ (rep_sc rfl) hk
        simp only [execOp, Instr.sliceAt, Sem.run_bind, run_underlying (isStr_spec hT hbs), Result.andThen_ok, e1, Instr.slice]
        simp [hbd]
    · rename_i l0 hnot hx
      have h0 := hr x
      rw [hx] at h0
      obtain ⟨G1, b1, p, t1, m1, hp, hk⟩ := pvK_sound hm (h0 : RepL G bk w l0 (e x)) h
      split at hk
      case h_2 => exact hk.elim
      rename_i sz rows ee te hte
      obtain ⟨k1, k2, _⟩ := elemOf_spec hT hte
      cases hbs : Nat.beq te.size sz with
      | false => rw [hbs] at hk; exact hk.elim
      | true =>
        rw [hbs] at hk
        have es : te.size = sz := Nat.eq_of_beq_eq_true hbs
        simp only [cond_true] at hk
        split at hk
        case h_2 => exact hk.elim
        rename_i l hh hl hhh
        obtain ⟨h1, h2, h3, hk⟩ := hk
        have hln : l.toNat ≤ hh.toNat := by omega
        have hhl : hh.toNat ≤ rows.length := by omega
        have hlen : ((rows.take hh.toNat).drop l.toNat).length = hh.toNat - l.toNat := by simp; omega
        have hrun : ∀ (a : Option Addr) (cap : Nat), e x = .slice a rows.length cap → rows.length ≤ cap → (execOp e ⟨dst, .slice t x lo hi none, type, pos, after, guard⟩).run P w =
            .ok (.value (.slice (if cap = l.toNat then a else a.map (·.add (l.toNat * sz))) (hh.toNat - l.toNat) (cap - l.toNat))) w := fun a cap ex hc => by
          have hbd := bounds true rows.length cap l hh hc hl hhh h1 h2 h3
          simp only [execOp, Instr.sliceAt, Sem.run_bind, run_underlying k1, Result.andThen_ok, ex, Instr.slice]
          simp [hbd, run_sizeOf hT k2, es]
        generalize hex : e x = v at hp
        generalize hrw : rows = rws at hp
        cases hp with
        | nil =>
          subst hrw
          have e0 : l.toNat = 0 := by simp at hhl; omega
          have e1 : hh.toNat = 0 := by simpa using hhl
          rw [hrun none 0 hex (by simp)]
          refine .value (x := .lf (.pv (.sl sz (([] : List (List PV)).take hh.toNat |>.drop l.toNat)))) t1 m1 ?_ hk
          simp only [e0, e1, if_true, Nat.sub_self, List.take_nil, List.drop_nil]
          exact RepP.nil sz
        | emp _ a0 cap =>
          subst hrw
          have e0 : l.toNat = 0 := by simp at hhl; omega
          have e1 : hh.toNat = 0 := by simpa using hhl
          rw [hrun (some a0) cap hex (by simp)]
          refine .value (x := .lf (.pv (.sl sz (([] : List (List PV)).take hh.toNat |>.drop l.toNat)))) t1 m1 ?_ hk
          simp only [e0, e1, Nat.sub_self, List.take_nil, List.drop_nil]
          split
          · exact RepP.emp sz _ _
          · exact RepP.emp sz _ _
        | sl _ g o cap _ vs hc hu hmm hrp =>
          subst hrw
          rw [hrun (some ⟨g, o, none⟩) cap hex hc]
          refine .value (x := .lf (.pv (.sl sz ((rows.take hh.toNat).drop l.toNat)))) t1 m1 ?_ hk
          have hgetr : ∀ j r, ((rows.take hh.toNat).drop l.toNat)[j]? = some r → rows[l.toNat + j]? = some r := fun j r hj => by
            rw [List.getElem?_drop] at hj
            have hjl := (List.getElem?_eq_some_iff.1 hj).1
            rw [List.getElem?_take_of_lt (by simp at hjl; omega)] at hj
            exact hj
          have hgen : ∀ o', (cap = l.toNat → rows.drop l.toNat = [] ∨ o' = o + l.toNat * sz) → (cap ≠ l.toNat → o' = o + l.toNat * sz) → RepP G1.S w (.sl sz ((rows.take hh.toNat).drop l.toNat)) (.slice (some ⟨g, o', none⟩) (hh.toNat - l.toNat) (cap - l.toNat)) := fun o' ho1 ho2 => by
            rw [← hlen]
            refine .sl sz g o' (cap - l.toNat) _ (fun j c => vs (l.toNat + j) c) (by rw [hlen]; omega) (fun r hr' => hu r (List.mem_of_mem_take (List.mem_of_mem_drop hr'))) (fun j r c p hj hp => ?_) (fun j r c p hj hp => hrp _ r c p (hgetr j r hj) hp)
            have h5 := hmm _ r c p (hgetr j r hj) hp
            have hjl : l.toNat + j < rows.length := (List.getElem?_eq_some_iff.1 (hgetr j r hj)).1
            have ho : o' = o + l.toNat * sz := by
              by_cases hcl : cap = l.toNat
              · omega
              · exact ho2 hcl
            have e5 : o' + (j * sz + c) = o + ((l.toNat + j) * sz + c) := by rw [ho, Nat.add_mul]; omega
            rw [e5]
            exact h5
          by_cases hcl : cap = l.toNat
          · rw [if_pos hcl]
            exact hgen o (fun _ => .inl (List.drop_of_length_le (by omega))) (fun h => absurd hcl h)
          · rw [if_neg hcl]
            simp only [Option.map_some, Addr.add_lit]
            exact hgen _ (fun h => absurd h hcl) (fun _ => rfl)
    · exact h.elim
  | makeInterface t x =>
    simp only [opV] at h
    split at h
    case h_2 => exact h.elim
    rename_i ht hx
    have hxr := hr x
    rw [hx] at hxr
    obtain ⟨us, hu, hf⟩ := hxr
    cases us with
    | cons _ _ => exact hf.elim
    | nil =>
      obtain ⟨F, h1, _⟩ := (hT t _ ht).strct [] rfl
      exact Out.of hm (by simp [execOp, Instr.makeInterface, run_underlying h1, hu]) (rep_sc rfl) h
  | makeFunc fn first caps =>
    cases fn with
    | func f => ?_
    | _ => exact h.elim
    simp only [opV] at h
    split at h
    case h_3 => exact h.elim
    case h_2 =>
      rename_i x hfirst
      split at h
      case h_2 => exact h.elim
      rename_i b off hcaps hx
      have hf0 : first = #[x] := by
        apply Array.toList_inj.1
        simpa using hfirst
      have hc0 : caps = #[] := by
        apply Array.toList_inj.1
        simpa using hcaps
      subst hf0 hc0
      have hxr := hr x
      rw [hx] at hxr
      obtain ⟨⟨g, hg, hxe⟩, hb, hrow⟩ := hxr
      exact Out.of hm (u := .func (.func f) #[.pointer (some ⟨g, off, none⟩)] #[]) (by simp [execOp, Instr.makeFunc, hxe]) (x := .lf (.bnd f b off)) ⟨⟨g, hg, rfl⟩, hb, hrow⟩ h
    rename_i hfirst
    split at h
    case h_2 => exact h.elim
    rename_i ls hls
    have hf0 : first = #[] := by
      apply Array.toList_inj.1
      simpa using hfirst
    subst hf0
    have hfa : Fa (RepL G bk w) ls (caps.toList.map e) := by
      have : ∀ {l : List Operand} {ls : List Lf}, (l.map ρ).mapM lfOf = some ls → Fa (RepL G bk w) ls (l.map e) := fun {l} => by
        induction l with
        | nil => intro ls h; simp at h; subst h; trivial
        | cons x l ih =>
          intro ls h
          rw [List.map_cons, List.mapM_cons] at h
          cases hx : ρ x with
          | lf y =>
            rw [hx] at h
            simp only [lfOf, Option.bind_eq_bind, Option.bind_some] at h
            cases hq : (l.map ρ).mapM lfOf with
            | none => rw [hq] at h; simp at h
            | some l' =>
              rw [hq] at h
              simp at h
              subst h
              have := hr x
              rw [hx] at this
              exact ⟨this, ih hq⟩
          | _ => rw [hx] at h; simp [lfOf] at h
      exact this hls
    obtain ⟨G1, b1, xs, t1, m1, hxs, _, hk⟩ := argLs_sound hm hfa h
    split at hk
    · rename_i cs hcs
      have hrun : (execOp e ⟨dst, .makeFunc (.func f) #[] caps, type, pos, after, guard⟩).run P w = .ok (.value (.func (.func f) #[] (caps.toList.map e).toArray)) w := by
        have hmp : caps.map e = (caps.toList.map e).toArray := by apply Array.toList_inj.1; simp
        simp [execOp, Instr.makeFunc, hmp]
      rw [hrun]
      refine .value (x := .lf (.fn f cs)) t1 m1 ⟨caps.toList.map e, rfl, ?_⟩ hk
      have : ∀ {xs : List Lf} {cs : List (List PV)} {us : List Value}, xs.mapM roOf = some cs → Fa (RepL G1 b1 w) xs us → Fa (fun l u => ∃ g o, u = .pointer (some ⟨g, o, none⟩) ∧ CellsP G1.S w g o l) cs us := fun {xs} => by
        induction xs with
        | nil => intro cs us h1 h2; simp at h1; subst h1; cases us <;> exact h2
        | cons x xs ih =>
          intro cs us h1 h2
          cases us with
          | nil => exact h2.elim
          | cons u us =>
            rw [List.mapM_cons] at h1
            cases x with
            | ro l =>
              simp only [roOf, Option.bind_eq_bind, Option.bind_some] at h1
              cases hq : xs.mapM roOf with
              | none => rw [hq] at h1; simp at h1
              | some l' => rw [hq] at h1; simp at h1; subst h1; exact ⟨h2.1, ih hq h2.2⟩
            | _ => simp [roOf] at h1
      exact this hcs hxs
    · exact hk.elim
  | buildSlice t len parts =>
    simp only [opV] at h
    split at h
    case h_2 => exact h.elim
    rename_i ee te hte
    obtain ⟨h1, h2, tt, h3, h4⟩ := elemOf_spec hT hte
    cases hb : (Nat.blt 0 te.size && Nat.ble (len * te.size) 16777216 && Nat.ble len 9223372036854775807) with
    | false => rw [hb] at h; exact h.elim
    | true =>
      rw [hb] at h
      simp only [Bool.and_eq_true] at hb
      have hpos : 0 < te.size := by have := Nat.le_of_ble_eq_true hb.1.1; omega
      have hle : len * te.size ≤ 16777216 := Nat.le_of_ble_eq_true hb.1.2
      have hlen : len ≤ maxLen := by have := Nat.le_of_ble_eq_true hb.2; simp only [maxLen]; omega
      simp only [cond_true] at h
      split at h
      case h_2 => exact h.elim
      rename_i ls hls
      obtain ⟨z, hz, hzl, _⟩ := run_zeroValue hT h2 w
      have hzs : te.zero.length = te.size := (hT ee te h2).zs
      have hzc : z.cells.size = te.size := by rw [← hzs, ← hzl]; simp
      let c0 : Array Value := (Array.range (len * te.size)).map (fun i => (if len * te.size = 0 then #[] else z.cells)[i % (if len * te.size = 0 then #[] else z.cells).size]!)
      have hc0 : Fa (RepL G bk w) ((List.range (len * te.size)).map fun i => lsc (te.zero.getD (i % te.size) undef)) c0.toList := by
        refine Fa.of_get (by simp [c0]) fun i x y hx hy => ?_
        have hi : i < len * te.size := by have := (List.getElem?_eq_some_iff.1 hx).1; simpa using this
        have hm' : i % te.size < te.size := Nat.mod_lt _ hpos
        have hne : len * te.size ≠ 0 := by omega
        simp [hi] at hx
        simp [c0, hi, hne, hzc] at hy
        subst hx
        have e1 : te.zero.getD (i % te.size) undef = z.cells[i % te.size]! := by
          rw [← hzl, List.getD_eq_getElem?_getD, Array.getElem?_toList, Array.getElem?_eq_getElem (by omega), getElem!_pos z.cells _ (by omega)]
          rfl
        have hz2 : z.cells[i % te.size]! ∈ te.zero := by
          rw [← hzl, getElem!_pos z.cells _ (by omega)]
          simp
        have e2 : te.zero[i % te.size]?.getD undef = z.cells[i % te.size]! := by rw [← e1]; simp
        rw [e2, ← hy]
        exact RepP.sc _ (plainV_one ((hT ee te h2).zp _ hz2))
      obtain ⟨rs, hrs, hfr⟩ := fill_sound (place' := fun i => some (i * te.size, te.size)) (fun _ _ h => h) hc0 (fa_parts hr parts.toList) hls
      have hlsl : ls.length = len * te.size := by
        have : ∀ (ps : List (Nat × Option (List Lf))) (cells r : List Lf), fillL (fun i => some (i * te.size, te.size)) cells ps = some r → r.length = cells.length := fun ps => by
          induction ps with
          | nil => intro cells r h; simp [fillL] at h; rw [h]
          | cons p ps ih =>
            intro cells r h
            obtain ⟨i, o⟩ := p
            cases o with
            | none => simp [fillL] at h
            | some l =>
              simp only [fillL] at h
              cases hbb : (Nat.beq l.length te.size && Nat.ble (i * te.size + te.size) cells.length) with
              | false => rw [hbb] at h; cases h
              | true =>
                rw [hbb] at h
                simp only [Bool.and_eq_true] at hbb
                have e1 := Nat.eq_of_beq_eq_true hbb.1
                have e2 := Nat.le_of_ble_eq_true hbb.2
                rw [ih _ _ h, length_splice (by omega)]
        rw [this _ _ _ hls]; simp
      obtain ⟨G1, b1, ps, t1, m1, hps, hk⟩ := pvsK_sound hm hfr h
      have hpsl : ps.length = len * te.size := by rw [hps.length, ← hfr.length, hlsl]
      have hrsl : rs.size = len * te.size := by have := hfr.length; simp at this; omega
      obtain ⟨G2, t2, m2, hM, hcp⟩ := m1.alloc (some (.cells rs ee)) (.arr ee te.size (chunk te.size len ps)) len (fun G' hS hM hcp tr => by
        refine .inr ⟨w.heap.size, rs, hM, ⟨_, heap_alloc_new w _, .inl rfl⟩, by rw [hcp]; exact hlen, by rw [hcp]; exact hrsl, by rw [hcp, chunk_length]; exact Nat.le_refl _, fun j r hj => ?_⟩
        have hjl : j < len := by have := (List.getElem?_eq_some_iff.1 hj).1; rwa [chunk_length] at this
        rw [chunk_get _ _ _ _ hjl] at hj
        cases hj
        have hjs : j * te.size + te.size ≤ len * te.size := by rw [← Nat.succ_mul]; exact Nat.mul_le_mul_right _ hjl
        refine ⟨by simp; omega, fun c p hp => ?_⟩
        have hcl : c < te.size := by
          have := (List.getElem?_eq_some_iff.1 hp).1
          simp at this; omega
        rw [List.getElem?_take_of_lt hcl, List.getElem?_drop] at hp
        obtain ⟨u, hu, hru⟩ := hps.get hp
        exact ⟨u, by simpa using hu, tr.repP hru⟩)
      have hrun : (execOp e ⟨dst, .buildSlice t len parts, type, pos, after, guard⟩).run P w = .ok (.value (.slice (some ⟨w.heap.size, 0, none⟩) len len)) (w.alloc (.cells rs ee)) := by
        have hl : (parts.map fun x => (match x with | (i, x) => (i, e x))).toList = parts.toList.map fun p => (p.1, e p.2) := by simp
        have hzr : (if len * te.size = 0 then pure #[] else do pure (← zeroValue ee).cells : Sem (Array Value)).run P w = .ok (if len * te.size = 0 then #[] else z.cells) w := by
          by_cases h0 : len * te.size = 0
          · rw [if_pos h0, if_pos h0]; rfl
          · rw [if_neg h0, if_neg h0, Sem.run_bind, hz]; rfl
        simp only [execOp, Instr.buildSlice, Sem.run_bind, run_underlying h1, Result.andThen_ok, run_sizeOf hT h2, Sem.run_ite]
        rw [if_neg (by omega)]
        simp only [hl]
        by_cases h0 : len * te.size = 0
        · have hrs' : Instr.fill (fun i => some (i * te.size, te.size)) ((Array.range (len * te.size)).map (fun i => (#[] : Array Value)[i % (#[] : Array Value).size]!)) (parts.toList.map fun p => (p.1, e p.2)) = some rs := by
            have := hrs
            simp only [c0, if_pos h0] at this
            exact this
          simp only [if_pos h0, Sem.run_pure, Result.andThen_ok, hrs']
          simp [Go.newRow]
        · have hrs' : Instr.fill (fun i => some (i * te.size, te.size)) ((Array.range (len * te.size)).map (fun i => z.cells[i % z.cells.size]!)) (parts.toList.map fun p => (p.1, e p.2)) = some rs := by
            have := hrs
            simp only [c0, if_neg h0] at this
            exact this
          simp only [if_neg h0, Sem.run_bind, hz, Sem.run_pure, Result.andThen_ok, hrs']
          simp [Go.newRow]
      rw [hrun]
      refine .value (x := .lf (.own b1.length len)) (t1.trans t2) m2 ⟨rfl, te.size, chunk te.size len ps, ?_, by rw [chunk_length]; exact Nat.le_refl _, fun _ => .inl ⟨w.heap.size, hM, by rw [hcp]⟩⟩ hk
      unfold rowsOf
      rw [List.getElem?_append_right (Nat.le_refl _)]
      simp
  | makeSlice t l c =>
    simp only [opV] at h
    split at h
    case h_2 => exact h.elim
    rename_i ee te kl n kc m hte hl hc
    obtain ⟨h1, h2, tt, h3, h4⟩ := elemOf_spec hT hte
    cases hb : (Nat.beq te.size 1 && Nat.blt 0 te.bytes) with
    | false => rw [hb] at h; exact h.elim
    | true =>
      rw [hb] at h
      simp only [Bool.and_eq_true] at hb
      have hs1 : te.size = 1 := Nat.eq_of_beq_eq_true hb.1
      have hpos : 0 < te.bytes := by have := Nat.le_of_ble_eq_true hb.2; omega
      obtain ⟨rfl, N, rfl, hN, hk⟩ := h
      have el := hr l
      rw [hl] at el
      obtain ⟨e1, _⟩ := sc_rep el
      have ec := hr c
      rw [hc] at ec
      obtain ⟨e2, _⟩ := sc_rep ec
      obtain ⟨i, z, i1, i2, i3, i4, i5, _⟩ := (hT ee te h2).info
      have hNle : N ≤ N * te.bytes := Nat.le_mul_of_pos_right N hpos
      have hlen : N ≤ maxLen := by simp only [maxLen]; omega
      have hbi : (i.bytes : Int) * (N : Int) ≤ 281474976710656 := by
        have : ((i.bytes * N : Nat) : Int) ≤ 281474976710656 := by rw [i3, Nat.mul_comm]; omega
        rwa [Int.natCast_mul] at this
      have hrun := run_make (P := P) w t ee i z h1 i1 i4 kl kc N N (by omega) (Int.le_refl _) hbi (by omega)
      simp only [Int.toNat_natCast] at hrun
      rw [i2, hs1, Nat.mul_one] at hrun
      have hzl : te.zero.length = 1 := by rw [(hT ee te h2).zs, hs1]
      have hzc : z.cells.size = 1 := by rw [← hzl, ← i5]; simp
      have hz0 : te.zero[0]? = some z.cells[0]! := by
        rw [← i5, Array.getElem?_toList, Array.getElem?_eq_getElem (by omega), getElem!_pos z.cells _ (by omega)]
      have hmem : z.cells[0]! ∈ te.zero := List.mem_of_getElem? hz0
      obtain ⟨G2, t2, m2, hM, hcp⟩ := hm.alloc (some (.cells (madeCells z.cells N) ee)) (.arr ee te.size (List.replicate N (te.zero.map PV.sc))) N (fun G' hS hM hcp tr => by
        refine .inr ⟨w.heap.size, madeCells z.cells N, hM, ⟨_, heap_alloc_new w _, .inl rfl⟩, by rw [hcp]; exact hlen, by rw [hcp, size_madeCells, hs1, Nat.mul_one], by rw [hcp, List.length_replicate]; exact Nat.le_refl _, fun j r hj => ?_⟩
        have hjl : j < N := by have := (List.getElem?_eq_some_iff.1 hj).1; rwa [List.length_replicate] at this
        rw [List.getElem?_replicate, if_pos hjl] at hj
        cases hj
        refine ⟨by rw [List.length_map, hzl, hs1], fun c p hp => ?_⟩
        have hcl : c = 0 := by
          have := (List.getElem?_eq_some_iff.1 hp).1
          rw [List.length_map] at this; omega
        subst hcl
        rw [List.getElem?_map, hz0] at hp
        cases hp
        refine ⟨z.cells[0]!, ?_, RepP.sc _ (plainV_one ((hT ee te h2).zp _ hmem))⟩
        rw [hs1]
        simp [madeCells, hjl, hzc, Nat.mod_one])
      have hrun2 : (execOp e ⟨dst, .makeSlice t l c, type, pos, after, guard⟩).run P w = .ok (.value (.slice (some ⟨w.heap.size, 0, none⟩) N N)) (w.alloc (.cells (madeCells z.cells N) ee)) := by
        simp [execOp, e1, e2, hrun]
      rw [hrun2]
      refine .value (x := .lf (.own bk.length N)) t2 m2 ⟨rfl, te.size, List.replicate N (te.zero.map PV.sc), ?_, by rw [List.length_replicate]; exact Nat.le_refl _, fun _ => .inl ⟨w.heap.size, hM, by rw [hcp]⟩⟩ hk
      unfold rowsOf
      rw [List.getElem?_append_right (Nat.le_refl _)]
      simp
  | call c =>
    obtain ⟨callee, args, argTypes⟩ := c
    simp only [opV] at h
    split at h
    · rename_i x t hargs htys
      have ha : args = #[x] := by apply Array.toList_inj.1; simpa using hargs
      have htt : argTypes = #[t] := by apply Array.toList_inj.1; simpa using htys
      subst ha htt
      have h0 := hr x
      split at h
      · rename_i s hx
        rw [hx] at h0
        obtain ⟨e1, _⟩ := sc_rep h0
        cases hb : isStr T t with
        | false => rw [hb] at h; exact h.elim
        | true =>
          rw [hb] at h
          exact Out.of hm (by simp [execOp, resolve, invoke, builtin, e1, Builtin.len_, run_underlying (isStr_spec hT hb), goInt]) (rep_sc rfl) h
      · rename_i sz rows hx
        rw [hx] at h0
        split at h
        · rename_i et hte
          obtain ⟨k1, _, _⟩ := elemOf_spec hT hte
          generalize hex : e x = v at h0
          have h0' : RepP G.S w (.sl sz rows) v := h0
          cases h0' with
          | nil => exact Out.of hm (by simp [execOp, resolve, invoke, builtin, hex, Builtin.len_, run_underlying k1, goInt]) (rep_sc rfl) h
          | emp => exact Out.of hm (by simp [execOp, resolve, invoke, builtin, hex, Builtin.len_, run_underlying k1, goInt]) (rep_sc rfl) h
          | sl => exact Out.of hm (by simp [execOp, resolve, invoke, builtin, hex, Builtin.len_, run_underlying k1, goInt]) (rep_sc rfl) h
        · exact h.elim
      · rename_i hx
        rw [hx] at h0
        obtain ⟨e1, _⟩ := sc_rep h0
        split at h
        · rename_i et hte
          obtain ⟨k1, _, _⟩ := elemOf_spec hT hte
          exact Out.of hm (by simp [execOp, resolve, invoke, builtin, e1, Builtin.len_, run_underlying k1, goInt]) (rep_sc rfl) h
        · exact h.elim
      · rename_i b len hx
        rw [hx] at h0
        split at h
        · rename_i et sz rows hte hrow
          obtain ⟨k1, _, _⟩ := elemOf_spec hT hte
          obtain ⟨hl, h⟩ := h
          obtain ⟨_, sz', rows', h3, h4, h5⟩ := (h0 : RepL G bk w (.own b len) (e x))
          rw [hrow] at h3
          cases h3
          rcases h5 hl with ⟨g, hg, ev⟩ | ⟨_, hl0, ev⟩
          · exact Out.of hm (by simp [execOp, resolve, invoke, builtin, ev, Builtin.len_, run_underlying k1, goInt]) (rep_sc rfl) h
          · subst hl0
            exact Out.of hm (by simp [execOp, resolve, invoke, builtin, ev, Builtin.len_, run_underlying k1, goInt]) (rep_sc rfl) h
        · exact h.elim
      · exact h.elim
    · rename_i x y t t' hargs htys
      have ha : args = #[x, y] := by apply Array.toList_inj.1; simpa using hargs
      have htt : argTypes = #[t, t'] := by apply Array.toList_inj.1; simpa using htys
      subst ha htt
      cases hbt : Nat.beq t t' with
      | false =>
        rw [hbt] at h
        simp only [cond_false] at h
        cases hbs : (isBytes T t && isStr T t') with
        | false => rw [hbs] at h; exact h.elim
        | true =>
        rw [hbs] at h
        simp only [cond_true] at h
        rw [Bool.and_eq_true] at hbs
        split at h
        case h_2 => exact h.elim
        rename_i ee te s hte hy
        obtain ⟨k1, k2, tt, k3, k4⟩ := elemOf_spec hT hte
        cases hbb : (Nat.beq te.size 1 && Nat.blt 0 te.bytes) with
        | false => rw [hbb] at h; exact h.elim
        | true =>
        rw [hbb] at h
        simp only [Bool.and_eq_true] at hbb
        simp only [cond_true] at h
        have hs1 : te.size = 1 := Nat.eq_of_beq_eq_true hbb.1
        have hp2 : 0 < te.bytes := by have := Nat.le_of_ble_eq_true hbb.2; omega
        have hyr := hr y
        rw [hy] at hyr
        obtain ⟨ey, _⟩ := sc_rep hyr
        have hxr := hr x
        split at h
        case h_2 => exact h.elim
        rename_i b len hx
        rw [hx] at hxr
        split at h
        case h_2 => exact h.elim
        rename_i e' sz rows hb
        cases hbc : (Nat.beq e' ee && Nat.beq sz te.size) with
        | false => rw [hbc] at h; exact h.elim
        | true =>
        rw [hbc] at h
        simp only [Bool.and_eq_true] at hbc
        simp only [cond_true] at h
        obtain rfl : e' = ee := Nat.eq_of_beq_eq_true hbc.1
        obtain rfl : sz = te.size := Nat.eq_of_beq_eq_true hbc.2
        have hrl : (byteRows s).length = s.size := by simp [byteRows]
        obtain ⟨rfl, hbd, hk⟩ := h
        obtain ⟨G2, w', r, h1, h2, h3, h4⟩ := append_str_sound hT hm (ty := type) k3 k4 k2 (isStr_spec hT hbs.2) hs1 hp2 s hb (hxr : RepL G bk w (.own b rows.length) (e x)) (by rw [hrl]; exact hbd)
        have hrun : (execOp e ⟨dst, .call ⟨.builtin .append, #[x, y], #[t, t']⟩, type, pos, after, guard⟩).run P w = .ok (.value r) w' := by
          simp [execOp, resolve, invoke, builtin, ey, h1]
        rw [hrun]
        rw [hrl] at h4
        exact .value (x := .lf (.own b (rows.length + s.size))) h2 h3 h4 hk
      | true =>
        rw [hbt] at h
        obtain rfl : t = t' := Nat.eq_of_beq_eq_true hbt
        simp only [cond_true] at h
        split at h
        case h_2 => exact h.elim
        rename_i ee te hte
        obtain ⟨k1, k2, tt, k3, k4⟩ := elemOf_spec hT hte
        cases hbb : (Nat.blt 0 te.size && Nat.blt 0 te.bytes) with
        | false => rw [hbb] at h; exact h.elim
        | true =>
          rw [hbb] at h
          simp only [Bool.and_eq_true] at hbb
          have hp1 : 0 < te.size := by have := Nat.le_of_ble_eq_true hbb.1; omega
          have hp2 : 0 < te.bytes := by have := Nat.le_of_ble_eq_true hbb.2; omega
          simp only [cond_true] at h
          split at h
          case h_2 => exact h.elim
          rename_i l hly
          have hyr : RepL G bk w l (e y) := by have := hr y; rw [hly] at this; exact this
          obtain ⟨G1, b1, p, t1, m1, hpr, rows2, hp2', hk⟩ := pvK_sound hm hyr h
          have hpr2 : RepP G1.S w (.sl te.size rows2) (e y) := by
            rcases hp2' with rfl | ⟨rfl, rfl⟩
            · exact hpr
            · generalize e y = v at hpr
              cases hpr
              exact RepP.nil _
          have hxr := t1.repA (hr x)
          have fin : ∀ {r : Value} {w' : World}, (Builtin.append_ #[t, t] type #[e x, e y]).run P w = .ok r w' → (execOp e ⟨dst, .call ⟨.builtin .append, #[x, y], #[t, t]⟩, type, pos, after, guard⟩).run P w = .ok (.value r) w' := fun hr' => by
            simp [execOp, resolve, invoke, builtin, hr']
          split at hk
          · rename_i b len hx
            rw [hx] at hxr
            split at hk
            case h_2 => exact hk.elim
            rename_i e' sz rows hb
            cases hbc : (Nat.beq e' ee && Nat.beq sz te.size) with
            | false => rw [hbc] at hk; exact hk.elim
            | true =>
              rw [hbc] at hk
              simp only [Bool.and_eq_true] at hbc
              obtain rfl : e' = ee := Nat.eq_of_beq_eq_true hbc.1
              obtain rfl : sz = te.size := Nat.eq_of_beq_eq_true hbc.2
              obtain ⟨rfl, hbd, hk⟩ := hk
              obtain ⟨G2, w', r, h1, h2, h3, h4⟩ := append_sound hT m1 (ty := type) k3 k4 k2 hp1 hp2 hb (hxr : RepL G1 b1 w (.own b rows.length) (e x)) hpr2 hbd
              rw [fin h1]
              exact .value (x := .lf (.own b (rows.length + rows2.length))) (t1.trans h2) h3 h4 hk
          · rename_i hx
            rw [hx] at hxr
            obtain ⟨ex, _⟩ := sc_rep hxr
            obtain ⟨hbd, hk⟩ := hk
            -- a slice of the call's own that is nil yet
            obtain ⟨G2, t2, m2, hM, hcp⟩ := m1.alloc none (.arr ee te.size []) 0 (fun G' hS hM hcp tr => .inl ⟨hM, rfl⟩)
            have hb2 : (b1 ++ [Blk.arr ee te.size []])[b1.length]? = some (.arr ee te.size []) := by rw [List.getElem?_append_right (Nat.le_refl _)]; simp
            have hset : (b1 ++ [Blk.arr ee te.size []]).set b1.length (.arr ee te.size ([] ++ rows2)) = b1 ++ [Blk.arr ee te.size rows2] := by
              rw [List.set_append_right _ _ (Nat.le_refl _)]; simp
            obtain ⟨G3, w', r, h1, h2, h3, h4⟩ := append_sound (w := w) hT m2 (ty := type) (u := e x) (rows := []) k3 k4 k2 hp1 hp2 hb2
              ⟨by rw [ex]; rfl, te.size, [], by unfold rowsOf; rw [hb2], Nat.le_refl _, fun _ => .inr ⟨hM, rfl, ex⟩⟩ (t2.repP hpr2) (by simpa using hbd)
            rw [hset] at h2 h3 h4
            rw [fin h1]
            simp only [List.length_nil, Nat.zero_add] at h4
            exact .value (x := .lf (.own b1.length rows2.length)) ((t1.trans t2).trans h2) h3 h4 hk
          · exact hk.elim
    · rename_i x y t t' hargs htys
      have ha : args = #[x, y] := by apply Array.toList_inj.1; simpa using hargs
      have htt : argTypes = #[t, t'] := by apply Array.toList_inj.1; simpa using htys
      subst ha htt
      split at h
      · rename_i k a k' b hx hy
        have h1 := hr x
        have h2 := hr y
        rw [hx] at h1
        rw [hy] at h2
        obtain ⟨e1, _⟩ := sc_rep h1
        obtain ⟨e2, _⟩ := sc_rep h2
        exact Out.of hm (by simp [execOp, resolve, invoke, builtin, e1, e2, Builtin.min_, Builtin.min2]) (rep_sc rfl) h
      · exact h.elim
    · rename_i x y t t' hargs htys
      have ha : args = #[x, y] := by apply Array.toList_inj.1; simpa using hargs
      have htt : argTypes = #[t, t'] := by apply Array.toList_inj.1; simpa using htys
      subst ha htt
      split at h
      · rename_i k a k' b hx hy
        have h1 := hr x
        have h2 := hr y
        rw [hx] at h1
        rw [hy] at h2
        obtain ⟨e1, _⟩ := sc_rep h1
        obtain ⟨e2, _⟩ := sc_rep h2
        exact Out.of hm (by simp [execOp, resolve, invoke, builtin, e1, e2, Builtin.max_, Builtin.max2]) (rep_sc rfl) h
      · exact h.elim
    · rename_i fo
      have hfa := fa_map hr args.toList
      obtain ⟨f, first, caps, h1, h2, h3⟩ := callK_sound hm (hr fo) hfa h
      have hrun : (execOp e ⟨dst, .call ⟨.value fo, args, argTypes⟩, type, pos, after, guard⟩).run P w = .ok (.enter f (first ++ args.toList.map e ++ caps).toArray) w := by
        unfold fnOK at h2
        cases hfn : P.funcs[f]? with
        | none => rw [hfn] at h2; cases h2
        | some fn =>
          rw [hfn] at h2
          simp only [Bool.and_eq_true, bne_iff_ne, ne_eq] at h2
          have hbody : fn.body.isNone = false := by cases hq : fn.body <;> simp_all
          have hmp : first.toArray ++ args.map e ++ caps.toArray = (first ++ args.toList.map e ++ caps).toArray := by apply Array.toList_inj.1; simp
          simp [execOp, resolve, Deferred.ofValue, h1, invoke, callFunc, hfn, h2.1, hmp]
          intro hq
          rw [hq] at hbody
          cases hbody
      rw [hrun]
      exact .enter h3
    · exact h.elim
  | _ => exact h.elim
end
end Go.Rx

/- A slice of the call's own, cut short: its rows belong to a block anew. -/
set_option linter.unusedVariables false
set_option linter.unusedSimpArgs false
namespace Go.Rx
open Go.RowKit

section
variable {P : Program} {T : Tab} {C : Ctx} {G : Gh} {sl : Nat → AV} {bk : List Blk} {a : Act} {w : World}

def cutB (bk : List Blk) (b e sz : Nat) (rows : List (List PV)) (k : Nat) : List Blk := bk.set b (.lost sz (rows ++ [[]])) ++ [.arr e sz (rows.take k)]
theorem Mem.cut (h : Mem C G bk w) {b e sz : Nat} {rows : List (List PV)} (hb : bk[b]? = some (.arr e sz rows)) (k : Nat) (hk : k ≤ rows.length) :
    ∃ G', Trn G bk w G' (cutB bk b e sz rows k) w ∧ Mem C G' (cutB bk b e sz rows k) w ∧ G'.M bk.length = G.M b ∧ G'.cp bk.length = G.cp b := by
  have hbl : b < bk.length := (List.getElem?_eq_some_iff.1 hb).1
  have hrb : rowsOf bk b = some (sz, rows) := by unfold rowsOf; rw [hb]
  let G' : Gh := { M := fun i => if i = bk.length then G.M b else if i = b then none else G.M i, S := G.S, cp := fun i => if i = bk.length then G.cp b else G.cp i }
  have hlen : (cutB bk b e sz rows k).length = bk.length + 1 := by simp [cutB]
  have g0 : ∀ i, i < bk.length → i ≠ b → (cutB bk b e sz rows k)[i]? = bk[i]? := fun i hi hn => by
    unfold cutB
    rw [List.getElem?_append_left (by simpa using hi), List.getElem?_set_ne (Ne.symm hn)]
  have gb : (cutB bk b e sz rows k)[b]? = some (.lost sz (rows ++ [[]])) := by
    unfold cutB
    rw [List.getElem?_append_left (by simpa using hbl), List.getElem?_set_self hbl]
  have gn : (cutB bk b e sz rows k)[bk.length]? = some (.arr e sz (rows.take k)) := by
    unfold cutB
    rw [List.getElem?_append_right (by simp)]; simp
  have hM : ∀ i, i < bk.length → i ≠ b → G'.M i = G.M i := fun i hi hn => by
    show (if i = bk.length then _ else if i = b then _ else _) = _
    rw [if_neg (by omega), if_neg hn]
  have hMb : G'.M b = none := by
    show (if b = bk.length then _ else if b = b then _ else _) = _
    rw [if_neg (by omega), if_pos rfl]
  have hMn : G'.M bk.length = G.M b := if_pos rfl
  have hc : ∀ i, i < bk.length → G'.cp i = G.cp i := fun i hi => if_neg (by omega)
  have hcn : G'.cp bk.length = G.cp b := if_pos rfl
  have hro : ∀ i, i < bk.length → i ≠ b → rowsOf (cutB bk b e sz rows k) i = rowsOf bk i := fun i hi hn => by unfold rowsOf; rw [g0 i hi hn]
  have hrlost : rowsOf (cutB bk b e sz rows k) b = some (sz, rows ++ [[]]) := by unfold rowsOf; rw [gb]
  have ab : Alive bk b := by unfold Alive; rw [hb]; trivial
  have t : Trn G bk w G' (cutB bk b e sz rows k) w := by
    refine ⟨fun _ _ h => h, fun _ _ _ => rfl, by rw [hlen]; omega, fun i hi hr => ?_, fun i s r hr => ?_⟩
    · have hn : i ≠ b := fun e => by subst e; rw [hrb] at hr; cases hr
      exact ⟨by rw [hro i hi hn]; exact hr, hM i hi hn⟩
    · by_cases hn : i = b
      · subst hn
        rw [hrb] at hr
        cases hr
        refine ⟨_, hrlost, by simp, fun h => ?_⟩
        simp at h
      · exact ⟨r, by rw [hro i (rowsOf_lt hr) hn]; exact hr, Nat.le_refl _, fun _ => ⟨hM i (rowsOf_lt hr) hn, hc i (rowsOf_lt hr)⟩⟩
  have split : ∀ i, i < (cutB bk b e sz rows k).length → (i < bk.length ∧ i ≠ b) ∨ i = b ∨ i = bk.length := fun i hi => by rw [hlen] at hi; omega
  refine ⟨G', t, ⟨fun i B hB => ?_, fun i j g hi hj e1 e2 => ?_, fun g o i hs ha e1 => ?_, h.slt, fun i g hi e1 => ?_, fun i g hi e1 => ?_, h.s0, h.snew, h.os, h.tape, h.output, h.size, h.block, by rw [hlen]; have := h.mle; omega, h.t0.trans t⟩, hMn, hcn⟩
  · rcases split i (List.getElem?_eq_some_iff.1 hB).1 with ⟨h1, h2⟩ | rfl | rfl
    · rw [g0 i h1 h2] at hB
      exact RepB.step t (hM i h1 h2) (hc i h1) (fun _ _ => rfl) (h.blk i B hB)
    · rw [gb] at hB
      cases hB
      exact hMb
    · rw [gn] at hB
      cases hB
      rcases h.blk b _ hb with ⟨h1, h2⟩ | ⟨g, cur, h0, h1, h2, h3, h4, h5⟩
      · exact .inl ⟨by rw [hMn]; exact h1, by rw [h2]; simp⟩
      · refine .inr ⟨g, cur, by rw [hMn]; exact h0, h1, by rw [hcn]; exact h2, by rw [hcn]; exact h3, by rw [hcn, List.length_take]; omega, fun j r hj => ?_⟩
        have hj' : rows[j]? = some r := by
          have hl := (List.getElem?_eq_some_iff.1 hj).1
          rw [List.getElem?_take_of_lt (by simp at hl; omega)] at hj
          exact hj
        obtain ⟨k1, k2⟩ := h5 j r hj'
        exact ⟨k1, fun c p hp => by obtain ⟨u, hu, hr⟩ := k2 c p hp; exact ⟨u, hu, t.repP hr⟩⟩
  · rcases split i hi with ⟨h1, h2⟩ | rfl | rfl <;> rcases split j hj with ⟨h3, h4⟩ | rfl | rfl
    · rw [hM i h1 h2] at e1; rw [hM j h3 h4] at e2; exact h.inj i j g h1 h3 e1 e2
    · rw [hMb] at e2; cases e2
    · rw [hM i h1 h2] at e1; rw [hMn] at e2; exact absurd (h.inj i b g h1 hbl e1 e2) h2
    · rw [hMb] at e1; cases e1
    · rfl
    · rw [hMb] at e1; cases e1
    · rw [hMn] at e1; rw [hM j h3 h4] at e2; exact absurd (h.inj j b g h3 hbl e2 e1) h4
    · rw [hMb] at e2; cases e2
    · rfl
  · rcases split i (alive_lt ha) with ⟨h1, h2⟩ | rfl | rfl
    · rw [hM i h1 h2] at e1
      exact h.sdis g o i hs (by unfold Alive at ha ⊢; rw [g0 i h1 h2] at ha; exact ha) e1
    · rw [hMb] at e1; cases e1
    · rw [hMn] at e1
      exact h.sdis g o b hs ab e1
  · rcases split i hi with ⟨h1, h2⟩ | rfl | rfl
    · rw [hM i h1 h2] at e1; exact h.mlt i g h1 e1
    · rw [hMb] at e1; cases e1
    · rw [hMn] at e1; exact h.mlt b g hbl e1
  · rcases split i hi with ⟨h1, h2⟩ | rfl | rfl
    · rw [hM i h1 h2] at e1; exact h.new i g h1 e1
    · rw [hMb] at e1; cases e1
    · rw [hMn] at e1; exact h.new b g hbl e1

/-- s[:k] of a slice of the call's own: k of its rows. -/
def cutK (T : Tab) (t : TypeId) (x : Operand) (hi : Operand) (ρ : Operand → AV) (bk : List Blk) (K : AV → List Blk → Prop) : Prop :=
  match ρ x with
  | .lf (.own b len) =>
    (match bk[b]? with
     | some (.arr e sz rows) =>
       (match elemOf? T t, bnd (some (ρ hi)) 0 with
        | some (_, te), some h => bif Nat.beq te.size sz then rows.length = len ∧ 0 ≤ h ∧ h ≤ len ∧ K (.lf (.own bk.length h.toNat)) (cutB bk b e sz rows h.toNat) else False
        | _, _ => False)
     | _ => False)
  | _ => False
theorem cutK_sound (hT : TabOK P T) (hm : Mem C G bk w) {ρ : Operand → AV} {e : Operand → Value} (hr : ∀ x, RepA G bk w (ρ x) (e x)) {dst : Option Nat} {t : TypeId} {x hi : Operand} {type : TypeId} {pos : String} {after : Array Edge} {guard : Option (Nat × Bool)} {K : AV → List Blk → Prop}
    (h : cutK T t x hi ρ bk K) : Out P C G bk w K ((execOp e ⟨dst, .slice t x none (some hi) none, type, pos, after, guard⟩).run P w) := by
  unfold cutK at h
  split at h
  case h_2 => exact h.elim
  rename_i b len hx
  split at h
  case h_2 => exact h.elim
  rename_i ety sz rows hb
  split at h
  case h_2 => exact h.elim
  rename_i ee te hh hte hbn
  obtain ⟨k1, k2, _⟩ := elemOf_spec hT hte
  cases hbs : Nat.beq te.size sz with
  | false => rw [hbs] at h; exact h.elim
  | true =>
  rw [hbs] at h
  have es : te.size = sz := Nat.eq_of_beq_eq_true hbs
  simp only [cond_true] at h
  obtain ⟨hlen, h0, hle, hk⟩ := h
  -- the bound's value
  obtain ⟨kk, hz⟩ : ∃ k, e hi = .int k hh := by
    simp only [bnd] at hbn
    split at hbn
    · rename_i q; cases q
    · rename_i k n' hq
      cases hbn
      have := hr hi
      rw [Option.some.inj hq] at this
      exact ⟨k, (sc_rep this).1⟩
    · cases hbn
  have hx0 := hr x
  rw [hx] at hx0
  have e1 : ((hh.toNat : Nat) : Int) = hh := Int.toNat_of_nonneg h0
  have hrun : ∀ (a : Option Addr) (cap : Nat), e x = .slice a len cap → len ≤ cap → (execOp e ⟨dst, .slice t x none (some hi) none, type, pos, after, guard⟩).run P w =
      .ok (.value (.slice (if cap = 0 then a else a.map (·.add 0)) hh.toNat cap)) w := fun a cap ex hc => by
    have hin : 0 ≤ hh ∧ hh ≤ cap := ⟨h0, by omega⟩
    simp only [execOp, Instr.sliceAt, Sem.run_bind, run_underlying k1, Result.andThen_ok, ex, Instr.slice]
    simp [Instr.sliceBounds, Instr.sliceBound, hz, asIntOf, hin, run_sizeOf hT k2, es]
  obtain ⟨G', t', m', hMn, hcn⟩ := hm.cut hb hh.toNat (by omega)
  obtain ⟨_, sz', rows', h2, _, h4⟩ := hx0
  have e2 : rowsOf bk b = some (sz, rows) := by unfold rowsOf; rw [hb]
  rw [e2] at h2
  cases h2
  have hrn : rowsOf (cutB bk b ety sz rows hh.toNat) bk.length = some (sz, rows.take hh.toNat) := by
    unfold rowsOf cutB
    rw [List.getElem?_append_right (by simp)]; simp
  have htl : (rows.take hh.toNat).length = hh.toNat := by rw [List.length_take]; omega
  rcases h4 hlen with ⟨g, hg, hv⟩ | ⟨hg, hl, hv⟩
  · have hcap : len ≤ G.cp b := by
      rcases hm.blk b _ hb with ⟨q, _⟩ | ⟨_, _, _, _, _, _, q, _⟩
      · rw [hg] at q; cases q
      · omega
    have ex := hrun (some ⟨g, 0, none⟩) (G.cp b) hv hcap
    have ea : (if G.cp b = 0 then some (⟨g, 0, none⟩ : Addr) else (some (⟨g, 0, none⟩ : Addr)).map (·.add 0)) = some ⟨g, 0, none⟩ := by
      split
      · rfl
      · simp [Addr.add_lit]
    rw [ea] at ex
    rw [ex]
    exact .value (x := .lf (.own bk.length hh.toNat)) t' m' ⟨rfl, sz, _, hrn, by omega, fun _ => .inl ⟨g, by rw [hMn]; exact hg, by rw [hcn]⟩⟩ hk
  · have hz0 : hh.toNat = 0 := by omega
    have ex := hrun none 0 (by rw [hv, hl]) (by omega)
    rw [if_pos rfl] at ex
    rw [ex]
    exact .value (x := .lf (.own bk.length hh.toNat)) t' m' ⟨rfl, sz, _, hrn, by omega, fun _ => .inr ⟨by rw [hMn]; exact hg, hz0, by rw [hz0]⟩⟩ hk
/-- The same, to be read alone: nothing stays behind that the rows could not turn under. -/
def viewK (T : Tab) (t : TypeId) (x : Operand) (hi : Operand) (ρ : Operand → AV) (bk : List Blk) (K : AV → List Blk → Prop) : Prop :=
  match ρ x with
  | .lf (.own b len) =>
    (match bk[b]? with
     | some (.arr _ sz rows) =>
       (match elemOf? T t, bnd (some (ρ hi)) 0 with
        | some (_, te), some h => bif Nat.beq te.size sz then rows.length = len ∧ 0 ≤ h ∧ h ≤ len ∧ K (.lf (.view b len h.toNat)) bk else False
        | _, _ => False)
     | _ => False)
  | _ => False
theorem viewK_sound (hT : TabOK P T) (hm : Mem C G bk w) {ρ : Operand → AV} {e : Operand → Value} (hr : ∀ x, RepA G bk w (ρ x) (e x)) {dst : Option Nat} {t : TypeId} {x hi : Operand} {type : TypeId} {pos : String} {after : Array Edge} {guard : Option (Nat × Bool)} {K : AV → List Blk → Prop}
    (h : viewK T t x hi ρ bk K) : Out P C G bk w K ((execOp e ⟨dst, .slice t x none (some hi) none, type, pos, after, guard⟩).run P w) := by
  unfold viewK at h
  split at h
  case h_2 => exact h.elim
  rename_i b len hx
  split at h
  case h_2 => exact h.elim
  rename_i ety sz rows hb
  split at h
  case h_2 => exact h.elim
  rename_i ee te hh hte hbn
  obtain ⟨k1, k2, _⟩ := elemOf_spec hT hte
  cases hbs : Nat.beq te.size sz with
  | false => rw [hbs] at h; exact h.elim
  | true =>
  rw [hbs] at h
  have es : te.size = sz := Nat.eq_of_beq_eq_true hbs
  simp only [cond_true] at h
  obtain ⟨hlen, h0, hle, hk⟩ := h
  obtain ⟨kk, hz⟩ : ∃ k, e hi = .int k hh := by
    simp only [bnd] at hbn
    split at hbn
    · rename_i q; cases q
    · rename_i k n' hq
      cases hbn
      have := hr hi
      rw [Option.some.inj hq] at this
      exact ⟨k, (sc_rep this).1⟩
    · cases hbn
  have hx0 := hr x
  rw [hx] at hx0
  have e1 : ((hh.toNat : Nat) : Int) = hh := Int.toNat_of_nonneg h0
  have hrun : ∀ (a : Option Addr) (cap : Nat), e x = .slice a len cap → len ≤ cap → (execOp e ⟨dst, .slice t x none (some hi) none, type, pos, after, guard⟩).run P w =
      .ok (.value (.slice (if cap = 0 then a else a.map (·.add 0)) hh.toNat cap)) w := fun a cap ex hc => by
    have hin : 0 ≤ hh ∧ hh ≤ cap := ⟨h0, by omega⟩
    simp only [execOp, Instr.sliceAt, Sem.run_bind, run_underlying k1, Result.andThen_ok, ex, Instr.slice]
    simp [Instr.sliceBounds, Instr.sliceBound, hz, asIntOf, hin, run_sizeOf hT k2, es]
  have e2 : rowsOf bk b = some (sz, rows) := by unfold rowsOf; rw [hb]
  obtain ⟨_, sz', rows', h2, _, h4⟩ := hx0
  rw [e2] at h2
  cases h2
  rcases h4 hlen with ⟨g, hg, hv⟩ | ⟨hg, hl, hv⟩
  · have hcap : len ≤ G.cp b := by
      rcases hm.blk b _ hb with ⟨q, _⟩ | ⟨_, _, _, _, _, _, q, _⟩
      · rw [hg] at q; cases q
      · omega
    have ex := hrun (some ⟨g, 0, none⟩) (G.cp b) hv hcap
    have ea : (if G.cp b = 0 then some (⟨g, 0, none⟩ : Addr) else (some (⟨g, 0, none⟩ : Addr)).map (·.add 0)) = some ⟨g, 0, none⟩ := by
      split
      · rfl
      · simp [Addr.add_lit]
    rw [ea] at ex
    exact Out.of hm ex (x := .lf (.view b len hh.toNat)) ⟨rfl, sz, rows, e2, by omega, by omega, fun _ => .inl ⟨g, hg, rfl⟩⟩ hk
  · subst hl
    have ex := hrun none 0 hv (Nat.le_refl _)
    have ez : hh.toNat = 0 := by omega
    rw [if_pos rfl, ez] at ex
    exact Out.of hm ex (x := .lf (.view b 0 hh.toNat)) ⟨rfl, sz, rows, e2, by omega, by omega, fun _ => .inr ⟨hg, rfl, rfl⟩⟩ hk
end
end Go.Rx

/- Code: what holds behind it. -/
set_option linter.unusedVariables false
set_option linter.unusedSimpArgs false
namespace Go.Rx
open Go.RowKit

abbrev Slots := Nat → AV
/-- The slot that a guard looks at. -/
def gslot (ops : Array Oper) (j : Nat) : Option Nat := (ops[j]?).bind (·.dst)
/-- An operation that may be guarded. -/
def guardK (ops : Array Oper) (g : Option (Nat × Bool)) (sl : Slots) (run : Slots → Prop) (skip : Slots → Prop) : Prop :=
  match g with
  | none => run sl
  | some (j, want) =>
    match gslot ops j with
    | none => False
    | some d =>
      match sl d with
      | .lf (.pv (.sc (.bool b))) =>
        (match b with
         | true => (match want with | true => run (put sl d (sc (.bool true))) | false => skip (put sl d (sc (.bool true))))
         | false => (match want with | true => skip (put sl d (sc (.bool false))) | false => run (put sl d (sc (.bool false)))))
      | .tup [] => skip sl
      | _ => False
def arOp (P : Program) (T : Tab) (ops : Array Oper) (o : Oper) (sl : Slots) (bk : List Blk) (K : Slots → List Blk → Prop) : Prop :=
  guardK ops o.guard sl (fun sl => opV P T o.op (ev sl) bk fun x bk => K (putO sl o.dst x) bk) (fun sl => K (putO sl o.dst (.tup [])) bk)
/-- The same; where a slice of the call's own is cut short, it may stay the call's own. -/
def arCut (P : Program) (T : Tab) (ops : Array Oper) (o : Oper) (sl : Slots) (bk : List Blk) (K : Slots → List Blk → Prop) : Prop :=
  match o.op, o.guard with
  | .slice t x none (some hi) none, none =>
    (match ev sl x with
     | .lf (.own _ _) => cutK T t x hi (ev sl) bk (fun y bk => K (putO sl o.dst y) bk) ∨ arOp P T ops o sl bk K
     | _ => arOp P T ops o sl bk K)
  | .slice t x none (some hi) none, some g =>
    (match ev sl x with
     | .lf (.own _ _) => guardK ops (some g) sl (fun sl => viewK T t x hi (ev sl) bk fun y bk => K (putO sl o.dst y) bk) (fun sl => K (putO sl o.dst (.tup [])) bk) ∨ arOp P T ops o sl bk K
     | _ => arOp P T ops o sl bk K)
  | _, _ => arOp P T ops o sl bk K
def awpOps (P : Program) (T : Tab) (ops : Array Oper) : List Oper → Slots → List Blk → (Slots → List Blk → Prop) → Prop
  | [], sl, bk, K => K sl bk
  | o :: rest, sl, bk, K => arCut P T ops o sl bk fun sl bk => awpOps P T ops rest sl bk K

abbrev Post := Exit → Slots → List Blk → Prop
/-- How many slots there are, and how many blocks were handed over. -/
structure Fr where
  n : Nat
  m : Nat
/-- Behind code c, begun where these slots and blocks are known, Q holds. -/
structure AW (P : Program) (n : Fr) (c : Code) (Q : Post) (sl : Slots) (bk : List Blk) : Prop where
  out : ∀ (C : Ctx) (G : Gh) (a : Act) (w : World), C.n = n.n ∧ C.m = n.m → Rel C G sl bk a w → c.wp P (fun e a' w' => Ok C (Q e) a' w') a w
def thenQ (Q : Slots → List Blk → Prop) (R : Post) : Post
  | .normal => Q
  | e => R e
def inBlk (id : Nat) (Q : Post) : Post
  | .exit id' => (match Nat.beq id' id with | true => Q .normal | false => Q (.exit id'))
  | e => Q e
/-- What a test has told of a slot. -/
def know (sl : Slots) (c : Operand) (b : Bool) : Slots := match c with | .tmp d => put sl d (sc (.bool b)) | _ => sl
/-- The same, by the form of the code; loops and regions that draw their order are left as they are. -/
def awp (P : Program) (n : Fr) (T : Tab) : Code → Post → Slots → List Blk → Prop
  | .skip, Q, sl, bk => Q .normal sl bk
  | .region id ops draw, Q, sl, bk =>
    (match draw with
     | false => awpOps P T ops ops.toList sl bk (Q .normal)
     | true => AW P n (.region id ops true) Q sl bk)
  | .seq a b, Q, sl, bk => awp P n T a (thenQ (awp P n T b Q) Q) sl bk
  | .cond c x y, Q, sl, bk =>
    (match ev sl c with
     | .lf (.pv (.sc (.bool b))) => (match b with | true => awp P n T x Q (know sl c true) bk | false => awp P n T y Q (know sl c false) bk)
     | _ => False)
  | .block id c, Q, sl, bk => awp P n T c (inBlk id Q) sl bk
  | .exit id, Q, sl, bk => Q (.exit id) sl bk
  | .ret, Q, sl, bk => Q .ret sl bk
  | c, Q, sl, bk => AW P n c Q sl bk
/-- Every slot that is written is there. -/
def dstB (n : Nat) : Code → Bool
  | .region _ ops _ => ops.all fun o => match o.dst with | some d => Nat.blt d n | none => true
  | .seq a b => dstB n a && dstB n b
  | .cond _ a b => dstB n a && dstB n b
  | .block _ c => dstB n c
  | .loop c => dstB n c
  | _ => true

section
variable {P : Program} {T : Tab} {C : Ctx} {G : Gh} {sl : Slots} {bk : List Blk} {a : Act} {w : World} {n : Fr}

theorem put_self {sl : Slots} {d : Nat} {x : AV} (h : sl d = x) : put sl d x = sl := by
  funext t
  unfold put
  split
  · rename_i e; rw [e, h]
  · rfl
theorem know_self {sl : Slots} {c : Operand} {b : Bool} (h : ev sl c = .lf (.pv (.sc (.bool b)))) : know sl c b = sl := by
  cases c with
  | tmp d => exact put_self h
  | _ => rfl
theorem bool_slot (h : Rel C G sl bk a w) {d : Nat} {b : Bool} (e : sl d = sc (.bool b)) : a.tmps.getD d undef = .bool b ∧ a.tmps[d]? = some (.bool b) := by
  have h1 := h.slots d
  rw [e] at h1
  have h2 := (sc_rep h1).1
  refine ⟨h2, ?_⟩
  cases hq : a.tmps[d]? with
  | none => simp [hq, undef] at h2
  | some v => simp [hq] at h2; rw [h2]
/-- What a guard asks: carried out, or not. -/
theorem guardK_sound (h : Rel C G sl bk a w) {ops : Array Oper} {o : Oper} {run skip : Slots → Prop} (hg : guardK ops o.guard sl run skip) :
    (Region.wanted o (yielded ops a.tmps) = true ∧ run sl) ∨ (Region.wanted o (yielded ops a.tmps) = false ∧ skip sl) := by
  unfold guardK at hg
  unfold Region.wanted
  cases hgd : o.guard with
  | none => rw [hgd] at hg; exact .inl ⟨rfl, hg⟩
  | some jw =>
    obtain ⟨j, want⟩ := jw
    rw [hgd] at hg
    simp only at hg
    cases hs : gslot ops j with
    | none => rw [hs] at hg; exact hg.elim
    | some d =>
      rw [hs] at hg
      simp only at hg
      split at hg
      · rename_i b hb
        have hy : yielded ops a.tmps j = some b := by
          unfold yielded
          unfold gslot at hs
          rw [hs, Option.bind_some, (bool_slot h hb).2]
        simp only [hy]
        cases b <;> cases want <;> simp only at hg <;> rw [put_self hb] at hg
        · exact .inl ⟨rfl, hg⟩
        · exact .inr ⟨rfl, hg⟩
        · exact .inr ⟨rfl, hg⟩
        · exact .inl ⟨rfl, hg⟩
      · rename_i hb
        have hy : yielded ops a.tmps j = none := by
          unfold yielded
          unfold gslot at hs
          rw [hs, Option.bind_some]
          have h1 := h.slots d
          rw [hb] at h1
          obtain ⟨us, hv, hf⟩ := h1
          cases us with
          | cons u us => exact hf.elim
          | nil =>
            cases hq : a.tmps[d]? with
            | none => rfl
            | some v => simp [hq] at hv; rw [hv]
        simp only [hy]
        exact .inr ⟨rfl, hg⟩
      · exact hg.elim

theorem arOp_sound (hT : TabOK P T) (h : Rel C G sl bk a w) {ops : Array Oper} {o : Oper} (hd : ∀ k, o.dst = some k → k < C.n) {K : Slots → List Blk → Prop} {K' : Act → World → Prop} {Q : Exit → Act → World → Prop}
    (hK : ∀ a w, Ok C K a w → K' a w) (hk : arOp P T ops o sl bk K) :
    (Region.wanted o (yielded ops a.tmps) = true ∧ o.wp P a w K' Q) ∨ (Region.wanted o (yielded ops a.tmps) = false ∧ K' (a.put o.dst undef) w) := by
  rcases guardK_sound h hk with ⟨hw, hr⟩ | ⟨hw, hs⟩
  · refine .inl ⟨hw, ?_⟩
    have hout := opV_sound hT h.mem (ev_rep h) o hr
    unfold Oper.wp
    generalize (execOp a.eval o).run P w = r at hout
    cases hout with
    | value t m hx hk => exact hK _ _ ⟨_, _, _, hk, h.put_of t m hx o.dst hd⟩
    | skip t m hk => exact hK _ _ ⟨_, _, _, hk, h.put_of t m (x := .un) trivial o.dst hd⟩
    | enter hc =>
      refine hc.mono ?_
      rintro e w' ⟨u, x, G', bk', rfl, t, m, hx, hk⟩
      exact hK _ _ ⟨_, _, _, hk, h.put_of t m hx o.dst hd⟩
  · exact .inr ⟨hw, hK _ _ ⟨G, _, bk, hs, h.put_of (Trn.refl _ _ _) h.mem (x := .tup []) ⟨[], rfl, trivial⟩ o.dst hd⟩⟩

theorem arCut_sound (hT : TabOK P T) (h : Rel C G sl bk a w) {ops : Array Oper} {o : Oper} (hd : ∀ k, o.dst = some k → k < C.n) {K : Slots → List Blk → Prop} {K' : Act → World → Prop} {Q : Exit → Act → World → Prop}
    (hK : ∀ a w, Ok C K a w → K' a w) (hk : arCut P T ops o sl bk K) :
    (Region.wanted o (yielded ops a.tmps) = true ∧ o.wp P a w K' Q) ∨ (Region.wanted o (yielded ops a.tmps) = false ∧ K' (a.put o.dst undef) w) := by
  unfold arCut at hk
  split at hk
  · rename_i t x hi hop hg
    split at hk
    · rcases hk with hk | hk
      · refine .inl ⟨by unfold Region.wanted; rw [hg], ?_⟩
        obtain ⟨dst, op, type, pos, after, guard⟩ := o
        simp only at hop hg
        subst hop
        have hout := cutK_sound (dst := dst) (type := type) (pos := pos) (after := after) (guard := guard) hT h.mem (ev_rep h) hk
        unfold Oper.wp
        generalize (execOp a.eval _).run P w = r at hout
        cases hout with
        | value t m hx hk => exact hK _ _ ⟨_, _, _, hk, h.put_of t m hx dst hd⟩
        | skip t m hk => exact hK _ _ ⟨_, _, _, hk, h.put_of t m (x := .un) trivial dst hd⟩
        | enter hc =>
          refine hc.mono ?_
          rintro e w' ⟨u, x, G', bk', rfl, t, m, hx, hk⟩
          exact hK _ _ ⟨_, _, _, hk, h.put_of t m hx dst hd⟩
      · exact arOp_sound hT h hd hK hk
    · exact arOp_sound hT h hd hK hk
  · rename_i t x hi gg hop hg
    split at hk
    · rcases hk with hk | hk
      · rw [← hg] at hk
        rcases guardK_sound h hk with ⟨hw, hr⟩ | ⟨hw, hs⟩
        · refine .inl ⟨hw, ?_⟩
          obtain ⟨dst, op, type, pos, after, guard⟩ := o
          simp only at hop hg
          subst hop
          have hout := viewK_sound (dst := dst) (type := type) (pos := pos) (after := after) (guard := guard) hT h.mem (ev_rep h) hr
          unfold Oper.wp
          generalize (execOp a.eval _).run P w = r at hout
          cases hout with
          | value t m hx hk => exact hK _ _ ⟨_, _, _, hk, h.put_of t m hx dst hd⟩
          | skip t m hk => exact hK _ _ ⟨_, _, _, hk, h.put_of t m (x := .un) trivial dst hd⟩
          | enter hc =>
            refine hc.mono ?_
            rintro e w' ⟨u, x, G', bk', rfl, t, m, hx, hk⟩
            exact hK _ _ ⟨_, _, _, hk, h.put_of t m hx dst hd⟩
        · exact .inr ⟨hw, hK _ _ ⟨G, _, bk, hs, h.put_of (Trn.refl _ _ _) h.mem (x := .tup []) ⟨[], rfl, trivial⟩ o.dst hd⟩⟩
      · exact arOp_sound hT h hd hK hk
    · exact arOp_sound hT h hd hK hk
  · exact arOp_sound hT h hd hK hk
theorem awpOps_sound (hT : TabOK P T) {ops : Array Oper} {Q : Exit → Act → World → Prop} {K : Slots → List Blk → Prop} (hQ : ∀ a w, Ok C K a w → Q .normal a w) : ∀ (l : List Oper) {G : Gh} {sl : Slots} {bk : List Blk} {a : Act} {w : World}, (∀ o ∈ l, ∀ k, o.dst = some k → k < C.n) →
    Rel C G sl bk a w → awpOps P T ops l sl bk K → wpList P ops Q l a w
  | [], G, sl, bk, a, w, _, h, hk => hQ _ _ ⟨G, sl, bk, hk, h⟩
  | o :: l, G, sl, bk, a, w, hd, h, hk => by
    unfold wpList
    rcases arCut_sound (Q := Q) hT h (hd o (by simp)) (fun a w ⟨G', sl', bk', hk', h'⟩ => awpOps_sound hT hQ l (fun o ho => hd o (by simp [ho])) h' hk') hk with ⟨hw, h1⟩ | ⟨hw, h1⟩
    · rw [if_pos hw]; exact .inl h1
    · rw [if_neg (by simp [hw])]; exact h1

/-! ### The rules -/
theorem AW.mono {c : Code} {Q R : Post} (h : AW P n c Q sl bk) (hq : ∀ e sl bk, Q e sl bk → R e sl bk) : AW P n c R sl bk :=
  ⟨fun C G a w hn hr => wp_mono (h.out C G a w hn hr) fun e a w ⟨G', sl', bk', hk, h'⟩ => ⟨G', sl', bk', hq _ _ _ hk, h'⟩⟩
theorem AW.seq {x y : Code} {Q : Post} {R : Slots → List Blk → Prop} (h : AW P n x (thenQ R Q) sl bk) (hy : ∀ sl bk, R sl bk → AW P n y Q sl bk) : AW P n (.seq x y) Q sl bk := by
  refine ⟨fun C G a w hn hr => ?_⟩
  refine wp_seq (wp_mono (h.out C G a w hn hr) fun e a w ⟨G', sl', bk', hk, h'⟩ => ?_)
  cases e <;> first
    | exact (hy _ _ hk).out C G' a w hn h'
    | exact ⟨G', sl', bk', hk, h'⟩
theorem AW.block {id : Nat} {c : Code} {Q : Post} (h : AW P n c (inBlk id Q) sl bk) : AW P n (.block id c) Q sl bk := by
  refine ⟨fun C G a w hn hr => ?_⟩
  refine wp_block (wp_mono (h.out C G a w hn hr) fun e a w ⟨G', sl', bk', hk, h'⟩ => ?_)
  cases e with
  | exit id' =>
    simp only [Exit.inBlock]
    simp only [inBlk] at hk
    cases hb : Nat.beq id' id with
    | true => rw [hb] at hk; rw [if_pos (Nat.eq_of_beq_eq_true hb)]; exact ⟨G', sl', bk', hk, h'⟩
    | false =>
      rw [hb] at hk
      have : id' ≠ id := fun e => by subst e; rw [show Nat.beq id' id' = true from Nat.beq_refl id'] at hb; cases hb
      rw [if_neg this]
      exact ⟨G', sl', bk', hk, h'⟩
  | _ => exact ⟨G', sl', bk', hk, h'⟩

theorem aw_of (hT : TabOK P T) : ∀ {c : Code} {Q : Post} {sl : Slots} {bk : List Blk}, dstB n.n c = true → awp P n T c Q sl bk → AW P n c Q sl bk := by
  intro c
  induction c with
  | skip => intro Q sl bk _ h; refine ⟨fun C G a w hn hr => ?_⟩; exact wp_skip ⟨G, sl, bk, h, hr⟩
  | region id ops draw =>
    intro Q sl bk hd h
    cases draw with
    | true => exact h
    | false =>
      refine ⟨fun C G a w hn hr => ?_⟩
      refine wp_region_list (awpOps_sound hT (K := Q .normal) (fun a w h => h) ops.toList (fun o ho k hk => ?_) hr h)
      have := (Array.all_eq_true'.1 hd) o (by simpa using ho)
      rw [hk] at this
      rw [hn.1]
      exact Nat.le_of_ble_eq_true this
  | seq x y ihx ihy =>
    intro Q sl bk hd h
    simp only [dstB, Bool.and_eq_true] at hd
    exact AW.seq (ihx hd.1 h) fun sl bk h => ihy hd.2 h
  | cond c x y ihx ihy =>
    intro Q sl bk hd h
    refine ⟨fun C G a w hn hr => ?_⟩
    simp only [dstB, Bool.and_eq_true] at hd
    simp only [awp] at h
    split at h
    · rename_i b hb
      have h0 := ev_rep hr c
      rw [hb] at h0
      have h1 := (sc_rep h0).1
      cases b with
      | true => rw [know_self hb] at h; exact wp_cond_true h1 ((ihx hd.1 h).out C G a w hn hr)
      | false => rw [know_self hb] at h; exact wp_cond_false h1 ((ihy hd.2 h).out C G a w hn hr)
    · exact h.elim
  | block id c ih => intro Q sl bk hd h; exact AW.block (ih hd h)
  | exit id => intro Q sl bk _ h; refine ⟨fun C G a w hn hr => ?_⟩; exact wp_exit ⟨G, sl, bk, h, hr⟩
  | ret => intro Q sl bk _ h; refine ⟨fun C G a w hn hr => ?_⟩; exact wp_ret ⟨G, sl, bk, h, hr⟩
  | _ => intro Q sl bk _ h; exact h

/-! ### Where ways meet -/
def mkS (l : List (Nat × AV)) : Slots := fun t => (l.lookup t).getD .un
def agree (sl : Slots) : List (Nat × AV) → Prop
  | [] => True
  | (t, x) :: l => sl t = x ∧ agree sl l
def clL (m : Nat) : Lf → Bool
  | .ptr b _ => Nat.blt b m
  | .ept b _ _ _ _ => Nat.blt b m
  | .own b _ => Nat.blt b m
  | .view b _ _ => Nat.blt b m
  | .bad b _ => Nat.blt b m
  | .bnd _ b _ => Nat.blt b m
  | _ => true
def clB (m : Nat) : Blk → Bool
  | .var cells => cells.all (clL m)
  | _ => true
def clT (m : Nat) : TC → Bool
  | .lf l => clL m l
  | .agg l => l.all (clL m)
def clA (m : Nat) : AV → Bool
  | .lf l => clL m l
  | .agg l => l.all (clL m)
  | .tup l => l.all (clT m)
  | .un => true
/-- What is known fits what is to be known at a meeting place; blocks that nobody there names are let go. -/
def Fits (m : Nat) (sl : Slots) (bk : List Blk) (S : List (Nat × AV)) (B : List Blk) : Prop :=
  agree sl S ∧ (∃ rest, bk = B ++ rest) ∧ B.all (clB B.length) = true ∧ (S.all (fun p => clA B.length p.2) && Nat.ble m B.length) = true

theorem blt_lt {a b : Nat} (h : Nat.blt a b = true) : a < b := Nat.le_of_ble_eq_true h
theorem clL_rep {B rest : List Blk} {l : Lf} {v : Value} (hc : clL B.length l = true) (h : RepL G (B ++ rest) w l v) : RepL G B w l v := by
  cases l with
  | pv p => exact h
  | ro p => exact h
  | fn f c => exact h
  | ptr b off =>
    have hb := blt_lt hc
    obtain ⟨h1, _, h2⟩ := h
    exact ⟨h1, hb, by rw [rowsOf_append _ hb] at h2; exact h2⟩
  | bnd f b off =>
    have hb := blt_lt hc
    obtain ⟨h1, _, h2⟩ := h
    exact ⟨h1, hb, by rw [rowsOf_append _ hb] at h2; exact h2⟩
  | bad b t =>
    have hb := blt_lt hc
    obtain ⟨h1, _, h2⟩ := h
    exact ⟨h1, hb, by rw [rowsOf_append _ hb] at h2; exact h2⟩
  | ept b m i sz off =>
    have hb := blt_lt hc
    obtain ⟨h1, rows, h2, h3⟩ := h
    exact ⟨h1, rows, by rw [rowsOf_append _ hb] at h2; exact h2, h3⟩
  | own b len =>
    have hb := blt_lt hc
    obtain ⟨h1, sz, rows, h2, h3⟩ := h
    exact ⟨h1, sz, rows, by rw [rowsOf_append _ hb] at h2; exact h2, h3⟩
  | view b n k =>
    have hb := blt_lt hc
    obtain ⟨h1, sz, rows, h2, h3⟩ := h
    exact ⟨h1, sz, rows, by rw [rowsOf_append _ hb] at h2; exact h2, h3⟩
theorem clA_rep {B rest : List Blk} {x : AV} {v : Value} (hc : clA B.length x = true) (h : RepA G (B ++ rest) w x v) : RepA G B w x v := by
  cases x with
  | lf l => exact clL_rep hc h
  | agg l => obtain ⟨us, rfl, hu⟩ := h; exact ⟨us, rfl, fa_all (p := clL B.length) (fun _ _ h1 h2 => clL_rep h1 h2) hc hu⟩
  | tup l =>
    obtain ⟨us, rfl, hu⟩ := h
    refine ⟨us, rfl, fa_all (p := clT B.length) (fun t v h1 h2 => ?_) hc hu⟩
    cases t with
    | lf l => exact clL_rep h1 h2
    | agg l => obtain ⟨us, rfl, hu⟩ := h2; exact ⟨us, rfl, fa_all (p := clL B.length) (fun _ _ h1 h2 => clL_rep h1 h2) h1 hu⟩
  | un => trivial
theorem agree_get {sl : Slots} : ∀ {S : List (Nat × AV)} {t : Nat}, agree sl S → mkS S t = .un ∨ (mkS S t = sl t ∧ ∃ p ∈ S, p.2 = sl t)
  | [], t, _ => .inl rfl
  | (t0, x) :: S, t, h => by
    by_cases e : t = t0
    · subst e
      right
      have : mkS ((t, x) :: S) t = x := by simp [mkS, List.lookup]
      exact ⟨by rw [this, h.1], (t, x), by simp, h.1.symm⟩
    · have : mkS ((t0, x) :: S) t = mkS S t := by
        have hb : (t == t0) = false := by simpa using e
        simp [mkS, List.lookup, hb]
      rw [this]
      rcases agree_get h.2 with h1 | ⟨h1, p, hp, h2⟩
      · exact .inl h1
      · exact .inr ⟨h1, p, by simp [hp], h2⟩
theorem Rel.fits {S : List (Nat × AV)} {B : List Blk} (hr : Rel C G sl bk a w) {m : Nat} (hn : C.m = m) (h : Fits m sl bk S B) : Rel C G (mkS S) B a w := by
  obtain ⟨ha, ⟨rest, rfl⟩, hB, hS⟩ := h
  rw [Bool.and_eq_true] at hS
  have hm : C.m ≤ B.length := by rw [hn]; exact Nat.le_of_ble_eq_true hS.2
  replace hS := hS.1
  have hget : ∀ b, b < B.length → (B ++ rest)[b]? = B[b]? := fun b hb => List.getElem?_append_left hb
  refine ⟨hr.size, hr.dfr, fun t => ?_, ?_⟩
  · rcases agree_get (t := t) ha with h1 | ⟨h1, p, hp, h2⟩
    · rw [h1]; trivial
    · rw [h1]
      have hc := List.all_eq_true.1 hS p hp
      rw [h2] at hc
      exact clA_rep hc (hr.slots t)
  · have k := hr.mem
    have hlt : ∀ b, b < B.length → b < (B ++ rest).length := fun b hb => by simp; omega
    refine ⟨fun b X hb => ?_, fun b b' g hb hb' => k.inj b b' g (hlt b hb) (hlt b' hb'), fun g o b hs hal => k.sdis g o b hs ((alive_append rest (alive_lt hal)).2 hal), k.slt, fun b g hb => k.mlt b g (hlt b hb), fun b g hb => k.new b g (hlt b hb), k.s0, k.snew, k.os, k.tape, k.output, k.size, k.block, hm, k.t0.drop hm⟩
    have hbl := (List.getElem?_eq_some_iff.1 hb).1
    have h0 := k.blk b X (by rw [hget b hbl]; exact hb)
    have hcb := List.all_eq_true.1 hB X (List.mem_of_getElem? hb)
    cases X with
    | var cells => obtain ⟨g, cur, ty, h1, h2, h3⟩ := h0; exact ⟨g, cur, ty, h1, h2, fa_all (p := clL B.length) (fun _ _ h1 h2 => clL_rep h1 h2) hcb h3⟩
    | _ => exact h0

/-- A slice that is nil becomes one of the call's own: before a loop that appends to it. -/
inductive NilAt where
  | slot (t e sz : Nat)
  | cell (b off e sz : Nat)
  | frz (t : Nat)
def nilsK : List NilAt → Slots → List Blk → (Slots → List Blk → Prop) → Prop
  | [], sl, bk, K => K sl bk
  | .slot t e sz :: l, sl, bk, K => sl t = sc (.slice none 0 0) ∧ nilsK l (put sl t (.lf (.own bk.length 0))) (bk ++ [.arr e sz []]) K
  | .cell b off e sz :: l, sl, bk, K =>
    (match bk[b]? with
     | some (.var cells) => cells[off]? = some (.pv (.sc (.slice none 0 0))) ∧ nilsK l sl (bk.set b (.var (cells.set off (.own bk.length 0))) ++ [.arr e sz []]) K
     | _ => False)
  | .frz t :: l, sl, bk, K => (match sl t with | .lf x => pvK bk x fun bk p => nilsK l (put sl t (.lf (.pv p))) bk K | _ => False)
theorem nilsK_sound : ∀ {l : List NilAt} {G : Gh} {sl : Slots} {bk : List Blk} {K : Slots → List Blk → Prop}, Rel C G sl bk a w → nilsK l sl bk K → ∃ G' sl' bk', K sl' bk' ∧ Rel C G' sl' bk' a w
  | [], G, sl, bk, K, hr, h => ⟨G, sl, bk, h, hr⟩
  | .slot t e sz :: l, G, sl, bk, K, hr, h => by
    obtain ⟨h1, h2⟩ := h
    obtain ⟨G1, t1, m1, hM, hcp⟩ := hr.mem.alloc none (.arr e sz []) 0 (fun G' hS hM hcp tr => .inl ⟨hM, rfl⟩)
    refine nilsK_sound (G := G1) ⟨hr.size, hr.dfr, fun t' => ?_, m1⟩ h2
    by_cases he : t' = t
    · subst he
      have h0 := hr.slots t'
      rw [h1] at h0
      have hv := (sc_rep h0).1
      simp only [put, if_true]
      refine ⟨by rw [hv]; rfl, sz, [], ?_, Nat.le_refl _, fun _ => .inr ⟨hM, rfl, hv⟩⟩
      unfold rowsOf
      rw [List.getElem?_append_right (Nat.le_refl _)]
      simp
    · simp only [put, if_neg he]
      exact t1.repA (hr.slots t')
  | .cell b off e sz :: l, G, sl, bk, K, hr, h => by
    simp only [nilsK] at h
    split at h
    · rename_i cells hb
      obtain ⟨h1, h2⟩ := h
      obtain ⟨G1, t1, m1, hM, hcp⟩ := hr.mem.alloc none (.arr e sz []) 0 (fun G' hS hM hcp tr => .inl ⟨hM, rfl⟩)
      have hbl := (List.getElem?_eq_some_iff.1 hb).1
      have hb1 : (bk ++ [Blk.arr e sz []])[b]? = some (.var cells) := by rw [List.getElem?_append_left hbl]; exact hb
      have hset : (bk ++ [Blk.arr e sz []]).set b (.var (cells.set off (.own bk.length 0))) = bk.set b (.var (cells.set off (.own bk.length 0))) ++ [.arr e sz []] := by rw [List.set_append_left _ _ hbl]
      have hnew : ((bk ++ [Blk.arr e sz []]).set b (.var (cells.set off (.own bk.length 0))))[b]? = some (.var (cells.set off (.own bk.length 0))) := List.getElem?_set_self (by simp; omega)
      have hro : rowsOf (bk ++ [Blk.arr e sz []]) b = none := by unfold rowsOf; rw [hb1]
      obtain ⟨t2, m2⟩ := m1.setb (w' := w) b (alive_var hb1) (.var (cells.set off (.own bk.length 0))) (alive_var hnew) (.inl ⟨hro, by unfold rowsOf; rw [hnew]⟩) (fun _ _ => rfl) rfl rfl rfl rfl (fun t => by
        obtain ⟨g, cur, ty, k1, k2, k3⟩ := m1.blk b _ hb1
        refine ⟨g, cur, ty, k1, ⟨k2.1, fun t ht => by
          rcases List.mem_or_eq_of_mem_set ht with ht | ht
          · exact k2.2 t ht
          · cases ht⟩, Fa.of_get (by simpa using k3.length) fun i x y hx hy => ?_⟩
        by_cases he : i = off
        · subst he
          have hil := (List.getElem?_eq_some_iff.1 h1).1
          rw [List.getElem?_set_self hil] at hx
          cases hx
          obtain ⟨y', hy', hry⟩ := k3.get h1
          rw [hy] at hy'
          cases hy'
          have hv : y = .slice none 0 0 := by have h' : RepP _ _ _ _ := hry; cases h'; rfl
          refine ⟨by rw [hv]; rfl, sz, [], ?_, Nat.le_refl _, fun _ => .inr ⟨hM, rfl, hv⟩⟩
          unfold rowsOf
          rw [List.getElem?_set_ne (by omega), List.getElem?_append_right (Nat.le_refl _)]
          simp
        · rw [List.getElem?_set_ne (Ne.symm he)] at hx
          obtain ⟨y', hy', hry⟩ := k3.get hx
          rw [hy] at hy'
          cases hy'
          exact t.repL hry)
      rw [hset] at t2 m2
      exact nilsK_sound ⟨hr.size, hr.dfr, fun t' => t2.repA (t1.repA (hr.slots t')), m2⟩ h2
    · exact h.elim
  | .frz t :: l, G, sl, bk, K, hr, h => by
    simp only [nilsK] at h
    split at h
    · rename_i x hx
      have h0 := hr.slots t
      rw [hx] at h0
      obtain ⟨G1, b1, p, t1, m1, hp, hk⟩ := pvK_sound hr.mem h0 h
      refine nilsK_sound (G := G1) ⟨hr.size, hr.dfr, fun t' => ?_, m1⟩ hk
      by_cases he : t' = t
      · subst he
        simp only [put, if_true]
        exact hp
      · simp only [put, if_neg he]
        exact t1.repA (hr.slots t')
    · exact h.elim

/-- Ways meet: what is known is said anew, in the form (S, B) at some index that I holds of. -/
def Meets {α : Type} (m : Nat) (I : α → Prop) (S : α → List (Nat × AV)) (B : α → List Blk) (sl : Slots) (bk : List Blk) : Prop := ∃ i, I i ∧ Fits m sl bk (S i) (B i)
theorem AW.cut {α : Type} (I : α → Prop) (S : α → List (Nat × AV)) (B : α → List Blk) (ns : List NilAt) {x y : Code} {Q : Post}
    (hx : AW P n x (thenQ (fun sl bk => nilsK ns sl bk (Meets n.m I S B)) Q) sl bk) (hm : ∀ i, I i → AW P n y Q (mkS (S i)) (B i)) : AW P n (.seq x y) Q sl bk := by
  refine ⟨fun C G a w hn hr => ?_⟩
  refine wp_seq (wp_mono (hx.out C G a w hn hr) fun e a w ⟨G', sl', bk', hk, h'⟩ => ?_)
  cases e <;> first
    | exact ⟨G', sl', bk', hk, h'⟩
    | skip
  obtain ⟨G1, sl1, bk1, ⟨i, hi, hf⟩, h1⟩ := nilsK_sound h' hk
  exact (hm i hi).out C G1 a w hn (h1.fits hn.2 hf)
/-- The same, ahead of the code. -/
theorem AW.meet {α : Type} (I : α → Prop) (S : α → List (Nat × AV)) (B : α → List Blk) (ns : List NilAt) {y : Code} {Q : Post}
    (hx : nilsK ns sl bk (Meets n.m I S B)) (hm : ∀ i, I i → AW P n y Q (mkS (S i)) (B i)) : AW P n y Q sl bk := by
  refine ⟨fun C G a w hn hr => ?_⟩
  obtain ⟨G1, sl1, bk1, ⟨i, hi, hf⟩, h1⟩ := nilsK_sound hr hx
  exact (hm i hi).out C G1 a w hn (h1.fits hn.2 hf)
/-- A loop: I, S and B say what is known at its head; every round lowers m. -/
theorem AW.loop {α : Type} (I : α → Prop) (S : α → List (Nat × AV)) (B : α → List Blk) (m : α → Nat) (ns : List NilAt) {c : Code} {Q : Post}
    (h0 : nilsK ns sl bk (Meets n.m I S B))
    (hr : ∀ i, I i → AW P n c (thenQ (Meets n.m (fun j => I j ∧ m j < m i) S B) Q) (mkS (S i)) (B i)) : AW P n (.loop c) Q sl bk := by
  refine ⟨fun C G a w hn hrel => ?_⟩
  obtain ⟨G1, sl1, bk1, ⟨i, hi, hf⟩, h1⟩ := nilsK_sound hrel h0
  have h1' := h1.fits hn.2 hf
  -- the measure counts the index of the round at hand
  have key : ∀ k i, m i = k → I i → ∀ G a w, Rel C G (mkS (S i)) (B i) a w → ∀ (b : Frame) (kk : List Item) (cs : List Frame),
      ∃ e a' w', Ok C (Q e) a' w' ∧ Arrives P (lone (b.at a (.code c :: .inLoop c :: kk)) cs w) b kk cs e a' w' := by
    intro k
    induction k using Nat.strongRecOn with
    | _ k ih =>
      intro i hk hi G a w hrel b kk cs
      obtain ⟨e, a₁, w₁, hq, harr⟩ := (hr i hi).out C G a w hn hrel b (.inLoop c :: kk) cs
      obtain ⟨G2, sl2, bk2, hq, hr2⟩ := hq
      cases e with
      | normal =>
        obtain ⟨j, ⟨hj, hlt⟩, hf2⟩ := hq
        obtain ⟨e₂, a₂, w₂, hq₂, harr₂⟩ := ih (m j) (by omega) j rfl hj G2 a₁ w₁ (hr2.fits hn.2 hf2) b kk cs
        exact ⟨e₂, a₂, w₂, hq₂, .of_steps (Steps.trans harr (.one step_inLoop)) harr₂⟩
      | exit id => exact ⟨_, a₁, w₁, ⟨G2, sl2, bk2, hq, hr2⟩, .pass (x := .inLoop c) rfl (fun _ _ => .inl (by simp)) harr⟩
      | goto l => exact ⟨_, a₁, w₁, ⟨G2, sl2, bk2, hq, hr2⟩, .pass (x := .inLoop c) rfl (fun _ _ => .inl (by simp)) harr⟩
      | ret => exact ⟨_, a₁, w₁, ⟨G2, sl2, bk2, hq, hr2⟩, .pass (x := .inLoop c) rfl (fun _ _ => .inl (by simp)) harr⟩
      | panic ch => exact ⟨_, a₁, w₁, ⟨G2, sl2, bk2, hq, hr2⟩, .pass (x := .inLoop c) rfl (fun _ _ => .inl (by simp)) harr⟩
      | outgrown => exact ⟨_, a₁, w₁, ⟨G2, sl2, bk2, hq, hr2⟩, .pass (x := .inLoop c) rfl (fun _ _ => .inl (by simp)) harr⟩
  intro b kk cs
  obtain ⟨e, a', w', hq, harr⟩ := key _ i rfl hi G1 a w h1' b kk cs
  exact ⟨e, a', w', hq, .of_steps (.one step_loop) harr⟩

/-! ### What a function returns -/
def resK (T : Tab) : List ResultVar → Slots → List Blk → (List AV → Prop) → Prop
  | [], sl, bk, K => K []
  | .tmp t :: l, sl, bk, K => resK T l sl bk fun xs => K (sl t :: xs)
  | .cell p t :: l, sl, bk, K => loadK T t (sl p) bk fun x => resK T l sl bk fun xs => K (x :: xs)
def toTC : AV → Option TC
  | .lf l => some (.lf l)
  | .agg l => some (.agg l)
  | _ => none
def pack : List AV → Option AV
  | [x] => some x
  | xs => (xs.mapM toTC).map AV.tup
/-- Behind the body r is returned. -/
def RetQ (T : Tab) (rs : List ResultVar) (r : AV) : Post
  | .ret, sl, bk => resK T rs sl bk fun xs => argsK bk xs fun _ ys => ∃ zs, Fa WkA ys zs ∧ pack zs = some r
  | .normal, sl, bk => resK T rs sl bk fun xs => argsK bk xs fun _ ys => ∃ zs, Fa WkA ys zs ∧ pack zs = some r
  | _, _, _ => False

theorem resK_sound (hT : TabOK P T) (hr : Rel C G sl bk a w) : ∀ {rs : List ResultVar} {K : List AV → Prop}, resK T rs sl bk K →
    ∃ xs vs, (rs.mapM (m := Sem) fun | .tmp t => pure (a.tmps.getD t undef) | .cell p t => do loadVar t (← asAddr (a.tmps.getD p undef))).run P w = .ok vs w ∧ Fa (RepA G bk w) xs vs ∧ K xs
  | [], K, h => ⟨[], [], rfl, trivial, h⟩
  | .tmp t :: rs, K, h => by
    obtain ⟨xs, vs, h1, h2, h3⟩ := resK_sound hT hr (rs := rs) h
    refine ⟨sl t :: xs, a.tmps.getD t undef :: vs, ?_, ⟨hr.slots t, h2⟩, h3⟩
    rw [List.mapM_cons, Sem.run_bind]
    simp only [Sem.run_pure, Result.andThen_ok, Sem.run_bind, h1]
  | .cell p t :: rs, K, h => by
    obtain ⟨x, u, h1, h2, h3⟩ := loadK_sound hT hr.mem (hr.slots p) h
    obtain ⟨xs, vs, h4, h5, h6⟩ := resK_sound hT hr (rs := rs) h3
    refine ⟨x :: xs, u :: vs, ?_, ⟨h2, h5⟩, h6⟩
    rw [List.mapM_cons, Sem.run_bind]
    have h1' : (do loadVar t (← asAddr (a.tmps.getD p undef)) : Sem Value).run P w = .ok u w := by
      generalize a.tmps.getD p undef = v at h1
      unfold Instr.loadAt Instr.sureAddr at h1
      unfold asAddr
      cases v with
      | pointer q => cases q <;> simp at h1 ⊢; exact h1
      | _ => simp at h1
    simp only [h1', Sem.run_pure, Result.andThen_ok, Sem.run_bind, h4]

theorem pack_rep {S : Nat → Nat → Prop} {zs : List AV} {vs : List Value} {r : AV} (h : Fa (RepA (Gh.base S) [] w) zs vs) (hp : pack zs = some r) :
    RepA (Gh.base S) [] w r (if h : vs.toArray.size = 1 then vs.toArray[0] else .tuple vs.toArray) := by
  have tc : ∀ {zs : List AV} {vs : List Value} {ts : List TC}, Fa (RepA (Gh.base S) [] w) zs vs → zs.mapM toTC = some ts → Fa (RepT (Gh.base S) [] w) ts vs := fun {zs} => by
    induction zs with
    | nil => intro vs ts h hm; simp at hm; subst hm; cases vs <;> exact h
    | cons z zs ih =>
      intro vs ts h hm
      cases vs with
      | nil => exact h.elim
      | cons v vs =>
        rw [List.mapM_cons] at hm
        cases z with
        | lf l =>
          simp only [toTC, Option.bind_eq_bind, Option.bind_some] at hm
          cases hq : zs.mapM toTC with
          | none => rw [hq] at hm; simp at hm
          | some l' => rw [hq] at hm; simp at hm; subst hm; exact ⟨h.1, ih h.2 hq⟩
        | agg l =>
          simp only [toTC, Option.bind_eq_bind, Option.bind_some] at hm
          cases hq : zs.mapM toTC with
          | none => rw [hq] at hm; simp at hm
          | some l' => rw [hq] at hm; simp at hm; subst hm; exact ⟨h.1, ih h.2 hq⟩
        | _ => simp [toTC] at hm
  cases zs with
  | nil => cases vs with
    | nil => simp [pack] at hp; subst hp; exact ⟨[], rfl, trivial⟩
    | cons v vs => exact h.elim
  | cons z zs => cases zs with
    | nil => cases vs with
      | nil => exact h.elim
      | cons v vs => cases vs with
        | nil => simp [pack] at hp; subst hp; exact h.1
        | cons v' vs => exact h.2.elim
    | cons z' zs => cases vs with
      | nil => exact h.elim
      | cons v vs => cases vs with
        | nil => exact h.2.elim
        | cons v' vs =>
          simp only [pack, Option.map_eq_some_iff] at hp
          obtain ⟨ts, h1, rfl⟩ := hp
          rw [dif_neg (by simp)]
          exact ⟨_, rfl, tc h h1⟩

/-- A contract, out of a body. -/
theorem Con.of {f : FuncId} {fn : Func} {c : Code} {args : List AV} {r : AV} (hT : TabOK P T) (hf : P.funcs[f]? = some fn) (hb : fn.body = some c) (hn : fnOK P f = true)
    (hsz : Nat.ble args.length fn.ntmps = true)
    (h : AW P ⟨fn.ntmps, 0⟩ c (RetQ T fn.results.toList r) (mkS (args.zipIdx.map fun p => (p.2, p.1))) []) : Con P f args r [] := by
  refine ⟨hn, rfl, fun w S us hS hargs => ?_⟩
  refine calls_of_wp hf hb ?_
  have hlen := hargs.length
  have hsz' := Nat.le_of_ble_eq_true hsz
  have hrel : Rel (Ctx.base w S fn.ntmps) (Gh.base S) (mkS (args.zipIdx.map fun p => (p.2, p.1))) [] { tmps := us.toArray ++ Array.replicate (fn.ntmps - us.toArray.size) undef, defers := [] } w := by
    refine ⟨?_, rfl, fun t => ?_, ⟨fun b B hb => by simp at hb, fun b b' g hb => by simp at hb, fun g o b hs ha => absurd (alive_lt ha) (by simp), hS, fun b g hb => by simp at hb, fun b g hb => by simp at hb, fun g o hs => hs, fun g o hs => .inl hs, rfl, rfl, rfl, Nat.le_refl _, fun _ _ _ => rfl, Nat.le_refl _, Trn.refl _ _ _⟩⟩
    · simp [Ctx.base]; omega
    · have hmk : mkS (args.zipIdx.map fun p => (p.2, p.1)) t = (args[t]?).getD .un := by
        unfold mkS
        have gen : ∀ (l : List AV) (k : Nat), ((l.zipIdx k).map fun p => (p.2, p.1)).lookup t = if t < k then none else l[t - k]? := fun l => by
          induction l with
          | nil => intro k; simp
          | cons x l ih =>
            intro k
            rw [List.zipIdx_cons, List.map_cons, List.lookup]
            by_cases e : t = k
            · subst e; simp
            · have hb : (t == k) = false := by simpa using e
              rw [hb, ih (k + 1)]
              by_cases hlt : t < k
              · rw [if_pos (by omega), if_pos hlt]
              · rw [if_neg (by omega), if_neg hlt]
                have : t - k = (t - (k + 1)) + 1 := by omega
                rw [this]; simp
        have := gen args 0
        simp at this
        simp [this]
      rw [hmk]
      rcases Nat.lt_or_ge t args.length with hl | hl
      · obtain ⟨v, hv, hrv⟩ := hargs.get (List.getElem?_eq_getElem hl)
        rw [List.getElem?_eq_getElem hl, Option.getD_some]
        have e1 : (us.toArray ++ Array.replicate (fn.ntmps - us.toArray.size) undef).getD t undef = v := by
          simp [Array.getElem?_append_left (show t < us.toArray.size by simp; omega), hv]
        rw [e1]
        exact hrv
      · rw [List.getElem?_eq_none hl]
        trivial
  refine wp_mono (h.out (Ctx.base w S fn.ntmps) _ _ w ⟨rfl, rfl⟩ hrel) fun e a' w' ⟨G', sl', bk', hq, hr'⟩ => ?_
  have fin : (resK T fn.results.toList sl' bk' fun xs => argsK bk' xs fun _ ys => ∃ zs, Fa WkA ys zs ∧ pack zs = some r) →
      a'.defers = [] ∧ ∃ v, (results fn a'.tmps).run P w' = .ok v w' ∧ ∃ u G'', Ending.returned v = .returned u ∧ RepA G'' [] w' r u ∧ Mem (Ctx.base w S 0) G'' [] w' := fun hq => by
    obtain ⟨xs, vs, h1, h2, h3⟩ := resK_sound hT hr' hq
    obtain ⟨G2, b2, ys, t2, m2, hys, zs, hwk, hpk⟩ := argsK_sound hr'.mem h2 h3
    refine ⟨hr'.dfr, _, ?_, _, Gh.base G2.S, rfl, pack_rep (wks_rep hwk hys) hpk, ?_⟩
    · unfold results
      rw [Sem.run_bind, Array.mapM_eq_mapM_toList, Sem.run_map]
      exact congrArg (fun r : Result (List Value) => Result.andThen (Result.andThen r fun a w' => Result.ok a.toArray w') fun a w' => Sem.run P (pure (if h : a.size = 1 then a[0] else Value.tuple a)) w') h1
    · exact ⟨fun b B hb => by simp at hb, fun b b' g hb => by simp at hb, fun g o b hs ha => absurd (alive_lt ha) (by simp), m2.slt, fun b g hb => by simp at hb, fun b g hb => by simp at hb, m2.s0, m2.snew, m2.os, m2.tape, m2.output, m2.size, m2.block, Nat.le_refl _, ⟨m2.t0.S, m2.t0.cell, Nat.le_refl _, fun b hb => absurd hb (Nat.not_lt_zero _), fun b sz rows h => (by unfold rowsOf at h; simp [Ctx.base] at h)⟩⟩
  cases e with
  | normal => exact fin hq
  | ret => exact fin hq
  | _ => exact hq.elim
end
end Go.Rx

/- Small words for the ends of walks. -/
namespace Go.Rx
abbrev I (n : Int) : AV := sc (.int .i64 n)
abbrev Bl (b : Bool) : AV := sc (.bool b)
abbrev Sx (s : ByteArray) : AV := sc (.string s)
abbrev pI (n : Int) : PV := .sc (.int .i64 n)
abbrev pB (b : Bool) : PV := .sc (.bool b)
abbrev pS (s : ByteArray) : PV := .sc (.string s)
theorem ret1 {x y : AV} (h : x = y) : ∃ zs, Fa WkA [x] zs ∧ pack zs = some y := ⟨_, wk_refl _, by rw [← h]; rfl⟩
theorem retB {x y : Bool} (h : x = y) : ∃ zs, Fa WkA [Bl x] zs ∧ pack zs = some (Bl y) := ret1 (by rw [h])
theorem retI {x y : Int} (h : x = y) : ∃ zs, Fa WkA [I x] zs ∧ pack zs = some (I y) := ret1 (by rw [h])
end Go.Rx
