/- Each operation does what the table of operations says. -/
import Derived.Test.YtooiiihaijpbaaaRx8
import Derived.Laws.IdiomStrings
import Derived.Laws.BytesArg
import Derived.IntWalk
set_option linter.unusedVariables false
set_option linter.unusedSimpArgs false
namespace Go.Rx
open Go.RowKit

section
variable {P : Program} {T : Tab} {C : Ctx} {G : Gh} {sl : Nat → AV} {bk : List Blk} {a : Act} {w : World}

theorem run_zeroValue (hT : TabOK P T) {t : TypeId} {ty : Ty} (ht : T.find t = some ty) (w : World) : ∃ z, (zeroValue t).run P w = .ok z w ∧ z.cells.toList = ty.zero ∧ (z = .agg ty.zero.toArray ∨ ty.d.agg = false) := by
  obtain ⟨i, z, h1, h2, h3, h4, h5, h6⟩ := (hT t ty ht).info
  exact ⟨z, by simp [zeroValue, typeInfo, h1, h4], h5, h6⟩

theorem fa_parts {ρ : Operand → AV} {e : Operand → Value} (hr : ∀ x, RepA G bk w (ρ x) (e x)) : ∀ (l : List (Nat × Operand)),
    Fa (fun (p : Nat × Option (List Lf)) (v : Nat × Value) => p.1 = v.1 ∧ ∀ ls, p.2 = some ls → Fa (RepL G bk w) ls v.2.cells.toList ∧ v.2.cells.size = ls.length) (l.map fun p => (p.1, leaves (ρ p.2))) (l.map fun p => (p.1, e p.2))
  | [] => trivial
  | p :: l => ⟨⟨rfl, fun ls h => leaves_rep (hr p.2) h⟩, fa_parts hr l⟩

theorem fa_map {ρ : Operand → AV} {e : Operand → Value} (hr : ∀ x, RepA G bk w (ρ x) (e x)) : ∀ (l : List Operand), Fa (RepA G bk w) (l.map ρ) (l.map e)
  | [] => trivial
  | x :: l => ⟨hr x, fa_map hr l⟩

theorem chunk_get (sz : Nat) : ∀ (n : Nat) (l : List PV) (j : Nat), j < n → (chunk sz n l)[j]? = some ((l.drop (j * sz)).take sz)
  | 0, _, _, h => absurd h (Nat.not_lt_zero _)
  | n + 1, l, 0, _ => by simp [chunk]
  | n + 1, l, j + 1, h => by
    simp only [chunk, List.getElem?_cons_succ]
    rw [chunk_get sz n (l.drop sz) j (by omega), List.drop_drop, Nat.succ_mul, Nat.add_comm sz]
theorem chunk_length (sz : Nat) : ∀ (n : Nat) (l : List PV), (chunk sz n l).length = n
  | 0, _ => rfl
  | n + 1, l => by simp [chunk, chunk_length sz n]

theorem cell_back (hT : TabOK P T) {s d : TypeId} {z : ByteArray} (hs : isBytes T s = true) (hd : isStr T d = true) {g o cap : Nat} (hc : ∀ j (hj : j < z.data.size), w.cell? ⟨g, o + j, none⟩ = some (.int .u8 (z.data[j].toNat : Int))) :
    (convert s d (.slice (some ⟨g, o, none⟩) z.size cap)).run P w = .ok (.string z) w := by
  obtain ⟨ee, hs1, he⟩ := isBytes_spec hT hs
  have := run_convert_bytes_back (P := P) w s d ee ⟨g, o, none⟩ cap z.data.toList hs1 he (isStr_spec hT hd) (fun j hj => by rw [Addr.add_lit]; simpa using hc j (by simpa using hj))
  have e1 : z.data.toList.length = z.size := by simp
  rw [e1] at this
  simpa using this
theorem bytes_back (hT : TabOK P T) {s d : TypeId} {z : ByteArray} (hs : isBytes T s = true) (hd : isStr T d = true) {v : Value} (h : RepP G.S w (.sl 1 (byteRows z)) v) : (convert s d v).run P w = .ok (.string z) w := by
  have hlen : (byteRows z).length = z.size := by simp [byteRows]
  generalize hrw : byteRows z = rows at h
  cases h with
  | nil =>
    obtain ⟨ee, hs1, he⟩ := isBytes_spec hT hs
    have hz : z.data = #[] := by
      have : z.data.toList = [] := by simpa [byteRows] using hrw
      simpa using this
    have : z = .empty := ByteArray.ext hz
    rw [run_convert_bytes_nil w s ee hs1 he 0 0 d (isStr_spec hT hd), this]
  | emp _ a cap =>
    obtain ⟨ee, hs1, he⟩ := isBytes_spec hT hs
    have hz : z.data.toList = [] := by simpa [byteRows] using hrw
    have := run_convert_bytes_back (P := P) w s d ee a cap z.data.toList hs1 he (isStr_spec hT hd) (fun j hj => by rw [hz] at hj; cases hj)
    rw [hz] at this
    have e2 : z = ⟨([] : List UInt8).toArray⟩ := ByteArray.ext (by simpa using hz)
    rw [e2]
    exact this
  | sl _ g o cap _ vs hc hu hm hr =>
    subst hrw
    rw [hlen]
    refine cell_back hT hs hd fun j hj => ?_
    have hj0 : (byteRows z)[j]? = some [.sc (.int .u8 (z.data[j].toNat : Int))] := by
      unfold byteRows
      rw [List.getElem?_map, List.getElem?_eq_getElem (by simpa using hj)]
      simp
    have h1 := (hm j _ 0 _ hj0 rfl).2
    have h2 := (sc_rep (G := G) (bk := []) (w := w) (hr j _ 0 _ hj0 rfl)).1
    rw [h2] at h1
    simpa using h1
theorem own_back (hT : TabOK P T) (hm : Mem C G bk w) {s d : TypeId} {z : ByteArray} {b : Nat} (hs : isBytes T s = true) (hd : isStr T d = true) (hb : rowsOf bk b = some (1, byteRows z)) {v : Value} (h : RepL G bk w (.own b (byteRows z).length) v) : (convert s d v).run P w = .ok (.string z) w := by
  have hlen : (byteRows z).length = z.size := by simp [byteRows]
  obtain ⟨ee, hs1, he⟩ := isBytes_spec hT hs
  have hj0 : ∀ j (hj : j < z.data.size), (byteRows z)[j]? = some [.sc (.int .u8 (z.data[j].toNat : Int))] := fun j hj => by
    unfold byteRows
    rw [List.getElem?_map, List.getElem?_eq_getElem (by simpa using hj)]
    simp
  have emp : (byteRows z).length = 0 → z = .empty := fun e => by
    rw [hlen] at e
    exact ByteArray.ext (Array.eq_empty_of_size_eq_zero e)
  obtain ⟨_, sz, rows, h2, _, h4⟩ := h
  rw [hb] at h2
  cases h2
  rcases h4 rfl with ⟨g, hg, rfl⟩ | ⟨_, hz, rfl⟩
  · rw [hlen]
    refine cell_back hT hs hd fun j hj => ?_
    unfold rowsOf at hb
    cases hbb : bk[b]? with
    | none => rw [hbb] at hb; cases hb
    | some B =>
      rw [hbb] at hb
      have h0 := hm.blk b B hbb
      cases B with
      | arr ety sz' rows' =>
        simp at hb
        obtain ⟨rfl, rfl⟩ := hb
        rcases h0 with ⟨h0, _⟩ | ⟨g', cur, h0, h1, _, _, _, h5⟩
        · rw [hg] at h0; cases h0
        · rw [hg] at h0
          cases h0
          obtain ⟨u, hu, hru⟩ := (h5 j _ (hj0 j hj)).2 0 _ rfl
          cases hru
          rw [cell_of_row w _ _ _ _ _ h1, Nat.zero_add]
          simpa using hu
      | frz sz' rows' =>
        simp at hb
        obtain ⟨rfl, rfl⟩ := hb
        rcases h0 with ⟨h0, _⟩ | ⟨g', h0, _, h5⟩
        · rw [hg] at h0; cases h0
        · rw [hg] at h0
          cases h0
          obtain ⟨_, u, hu, hru⟩ := (h5 j _ (hj0 j hj)).2 0 _ rfl
          cases hru
          rw [Nat.zero_add]
          simpa using hu
      | lost sz' rows' => exact absurd ((show G.M b = none from h0).symm.trans hg) (by simp)
      | _ => simp at hb
  · rw [run_convert_bytes_nil w s ee hs1 he 0 0 d (isStr_spec hT hd), emp hz]
theorem run_markStringish (w : World) (g : Nat) : ∃ w', (markStringish ⟨g, 0, none⟩).run P w = .ok () w' ∧ (∀ g' o, w'.cell? ⟨g', o, none⟩ = w.cell? ⟨g', o, none⟩) ∧ (∀ g', g' ≠ g → w'.heap[g']? = w.heap[g']?) ∧ w'.heap.size = w.heap.size ∧ w'.os = w.os ∧ w'.tape = w.tape ∧ w'.output = w.output := by
  unfold markStringish
  cases hs : w.shape? g with
  | none => exact ⟨w, by simp [hs], fun _ _ => rfl, fun _ _ => rfl, rfl, rfl, rfl, rfl⟩
  | some x =>
    have hget : ∀ g', (w.freeze ⟨g, x.2, none⟩ 1).heap[g']? = if g = g' then (w.heap[g']?).map fun
        | .cells c elem (lo, hi) => .cells c elem (if lo == hi then (x.2, x.2 + 1) else (min lo x.2, max hi (x.2 + 1)))
        | o => o else w.heap[g']? := fun g' => by
      unfold World.freeze
      rw [if_neg (by decide)]
      show (w.heap.modify g _)[g']? = _
      rw [Array.getElem?_modify]
      rfl
    refine ⟨w.freeze ⟨g, x.2, none⟩ 1, by simp [hs], fun g' o => ?_, fun g' hg' => ?_, ?_, ?_, ?_, ?_⟩
    · unfold World.cell?
      rw [hget]
      by_cases e : g = g'
      · rw [if_pos e]
        cases w.heap[g']? with
        | none => rfl
        | some ob => cases ob <;> rfl
      · rw [if_neg e]
    · rw [hget, if_neg (Ne.symm hg')]
    · unfold World.freeze
      rw [if_neg (by decide)]
      simp
    all_goals (unfold World.freeze; rw [if_neg (by decide)])
theorem opV_sound (hT : TabOK P T) (hm : Mem C G bk w) {ρ : Operand → AV} {e : Operand → Value} (hr : ∀ x, RepA G bk w (ρ x) (e x)) (o : Oper) {K : AV → List Blk → Prop} (h : opV P T o.op ρ bk K) :
    Out P C G bk w K ((execOp e o).run P w) := by
  obtain ⟨dst, op, type, pos, after, guard⟩ := o
  cases op with
  | move x => exact Out.of hm rfl (hr x) h
  | assign x => exact Out.of hm rfl (hr x) h
  | pick c x y =>
    simp only [opV] at h
    split at h
    · rename_i hc
      have := hr c
      rw [hc] at this
      obtain ⟨e1, _⟩ := sc_rep this
      exact Out.of hm (by simp [execOp, e1, asBool]) (hr x) h
    · rename_i hc
      have := hr c
      rw [hc] at this
      obtain ⟨e1, _⟩ := sc_rep this
      exact Out.of hm (by simp [execOp, e1, asBool]) (hr y) h
    · exact h.elim
  | alloc t =>
    simp only [opV] at h
    split at h
    · rename_i ty ht
      obtain ⟨z, hz, hzl, _⟩ := run_zeroValue hT ht w
      obtain ⟨G', u, h1, h2, h3, h4⟩ := mem_newVar (P := P) hm t (ls := ty.zero.map lsc) (v := z) (by rw [hzl]; exact fa_lsc fun v hv => plainV_one ((hT t ty ht).zp v hv))
      have hrun : (execOp e ⟨dst, .alloc t, type, pos, after, guard⟩).run P w = .ok (.value (.pointer (some u))) (w.alloc (.cells z.cells t)) := by
        simp [execOp, Instr.alloc, hz, h1]
      rw [hrun]
      exact .value (x := .lf (.ptr bk.length 0)) h2 h3 h4 h
    · exact h.elim
  | box t x =>
    simp only [opV] at h
    split at h
    · rename_i ls hls
      obtain ⟨hf, _⟩ := leaves_rep (hr x) hls
      obtain ⟨G', u, h1, h2, h3, h4⟩ := mem_newVar (P := P) hm t hf
      have hrun : (execOp e ⟨dst, .box t x, type, pos, after, guard⟩).run P w = .ok (.value (.pointer (some u))) (w.alloc (.cells (e x).cells t)) := by
        simp [execOp, Instr.box, h1]
      rw [hrun]
      exact .value (x := .lf (.ptr bk.length 0)) h2 h3 h4 h
    · exact h.elim
  | build t parts =>
    simp only [opV] at h
    split at h
    · rename_i fs size bytes zero ht
      split at h
      · rename_i ls hls
        obtain ⟨F, h1, h2, h3, h4, h5, hall⟩ := (hT t _ ht).strct fs rfl
        obtain ⟨z, hz, hzl, _⟩ := run_zeroValue hT ht w
        -- every part that is filled has a place of its own
        let pl : Nat → Option (Nat × Nat) := fun i => (F[i]?).map fun f => (f.offset, P.cellsOf f.type)
        have hpl : ∀ i x, placeT T fs i = some x → pl i = some x := fun i x hx => by
          unfold placeT at hx
          split at hx
          · rename_i off t' hf
            split at hx
            · rename_i ty hty
              cases hx
              rw [← h2, List.getElem?_map, Option.map_eq_some_iff] at hf
              obtain ⟨f, hf1, hf2⟩ := hf
              cases hf2
              obtain ⟨i', z', hi, hs, _⟩ := (hT _ ty hty).info
              simp only [pl]
              rw [← Array.getElem?_toList, hf1]
              simp [Program.cellsOf, hi, hs]
            · cases hx
          · cases hx
        have hzf : Fa (RepL G bk w) (zero.map lsc) z.cells.toList := by rw [hzl]; exact fa_lsc fun v hv => plainV_one ((hT t _ ht).zp v hv)
        obtain ⟨rs, hrs, hfr⟩ := fill_sound hpl hzf (fa_parts hr parts.toList) hls
        refine Out.of (x := .agg ls) (u := .agg rs) hm ?_ ⟨rs.toList, by simp, hfr⟩ h
        have hpls := run_places hT h2 hall w
        have hget : ∀ i, (F.map fun (f : Field) => (f.offset, P.cellsOf f.type))[i]? = pl i := fun i => by simp [pl]
        simp only [execOp, Instr.build, Sem.run_bind, hz, Result.andThen_ok, run_underlying h1, hpls, hget]
        have hl : (parts.map fun x => (match x with | (i, x) => (i, e x))).toList = parts.toList.map fun p => (p.1, e p.2) := by simp
        rw [hl]
        have hpl' : (fun i => pl i) = pl := rfl
        simp only [hrs]
        rfl
      · exact h.elim
    · exact h.elim
  | load t p =>
    simp only [opV] at h
    obtain ⟨x, u, h1, h2, h3⟩ := loadK_sound hT hm (hr p) h
    exact Out.of hm (by simp [execOp, h1]) h2 h3
  | store t p x =>
    simp only [opV] at h
    obtain ⟨G', bk', w', h1, h2, h3, h4⟩ := storeK_sound hT hm (hr p) (hr x) h
    have hrun : (execOp e ⟨dst, .store t p x, type, pos, after, guard⟩).run P w = .ok .skip w' := by simp [execOp, h1]
    rw [hrun]
    exact .skip h2 h3 h4
  | nilCheck x =>
    simp only [opV] at h
    split at h
    · rename_i b o' hx
      have h0 := hr x
      rw [hx] at h0
      replace h0 : RepL G bk w (.ptr b o') (e x) := h0
      obtain ⟨⟨g, hg, e1⟩, h1⟩ := h0
      exact Out.of (x := .lf (.ptr b o')) hm (by simp [execOp, e1]) ⟨⟨g, hg, rfl⟩, h1⟩ h
    · rename_i l hx
      have h0 := hr x
      rw [hx] at h0
      replace h0 : RepL G bk w (.ro l) (e x) := h0
      obtain ⟨g, o', e1, h1⟩ := h0
      exact Out.of (x := .lf (.ro l)) hm (by simp [execOp, e1]) ⟨g, o', rfl, h1⟩ h
    · exact h.elim
  | binOp op t x y yt =>
    simp only [opV] at h
    obtain ⟨z, r, h1, h2, h3⟩ := binK_sound hT (xo := x) (yo := y) (hr x) (hr y) h
    refine Out.of hm (u := r) ?_ h2 h3
    simp only [execOp]
    rw [Sem.run_bind, h1]
    rfl
  | unOp op t x =>
    simp only [opV] at h
    split at h
    · rename_i u hx
      split at h
      · rename_i z hz
        have h0 := hr x
        rw [hx] at h0
        obtain ⟨e1, _⟩ := sc_rep h0
        obtain ⟨h1, h2⟩ := vUn_run (P := P) hz w
        exact Out.of hm (by simp [execOp, e1, h1]) (rep_sc h2) h
      · exact h.elim
    · exact h.elim
  | convert s d x =>
    simp only [opV] at h
    split at h
    · rename_i k n hx
      have h0 := hr x
      rw [hx] at h0
      obtain ⟨e1, _⟩ := sc_rep h0
      split at h
      · rename_i k1 k2 hs hd
        exact Out.of hm (by simp [execOp, convert, e1, run_underlying (intKind_spec hT hs), run_underlying (intKind_spec hT hd), Conv.intToInt]) (rep_sc rfl) h
      · exact h.elim
    · rename_i z hx
      have h0 := hr x
      rw [hx] at h0
      obtain ⟨e1, _⟩ := sc_rep h0
      cases hs : isStr T s with
      | false => rw [hs] at h; exact h.elim
      | true =>
        rw [hs] at h
        simp only [cond_true] at h
        cases hd : isStr T d with
        | true =>
          rw [hd] at h
          exact Out.of hm (by simp [execOp, convert, e1, run_underlying (isStr_spec hT hs), run_underlying (isStr_spec hT hd)]) (rep_sc rfl) h
        | false =>
          rw [hd] at h
          simp only [cond_false] at h
          cases hb : isBytes T d with
          | false => rw [hb] at h; exact h.elim
          | true =>
            rw [hb] at h
            simp only [cond_true] at h
            obtain ⟨ee, hd1, he⟩ := isBytes_spec hT hb
            have hrun := run_bytes_of_string w s d ee z (isStr_spec hT hs) hd1 he
            generalize hcap : grownCap w z.size 0 ee = cap at hrun
            have hge : z.size ≤ cap := by rw [← hcap]; exact grownCap_ge w z.size 0 ee
            obtain ⟨td, md⟩ := hm.drew
            obtain ⟨G1, t1, m1, hM, _⟩ := md.alloc (some (.cells (bytesRow z cap) ee ((bytesRow z cap).size, (bytesRow z cap).size + 1))) .dead 0 (fun _ _ _ _ _ => trivial)
            have hbk : (bk ++ [Blk.dead])[bk.length]? = some .dead := by rw [List.getElem?_append_right (Nat.le_refl _)]; simp
            obtain ⟨G2, t2, m2, hM2, _, hS2⟩ := m1.share bk.length .dead hbk (by unfold Alive; rw [hbk]; exact id) (fun _ _ => rfl) (fun _ _ => rfl) rfl rfl rfl rfl
            have hrun2 : (execOp e ⟨dst, .convert s d x, type, pos, after, guard⟩).run P w = .ok (.value (.slice (some ⟨w.heap.size, 0, none⟩) z.size cap)) (w.drew.alloc (.cells (bytesRow z cap) ee ((bytesRow z cap).size, (bytesRow z cap).size + 1))) := by
              simp [execOp, e1, hrun]
            rw [hrun2]
            refine .value (x := .lf (.pv (.sl 1 (byteRows z)))) (td.trans (t1.trans t2)) m2 ?_ h
            have hlen : (byteRows z).length = z.size := by simp [byteRows]
            have hrow : ∀ j r c p, (byteRows z)[j]? = some r → r[c]? = some p → c = 0 ∧ ∃ hj : j < z.data.size, p = .sc (.int .u8 (z.data[j].toNat : Int)) := fun j r c p hj hp => by
              unfold byteRows at hj
              rw [List.getElem?_map, Option.map_eq_some_iff] at hj
              obtain ⟨b, hb1, rfl⟩ := hj
              have hc0 : c = 0 := by
                have := (List.getElem?_eq_some_iff.1 hp).1
                simpa using this
              subst hc0
              simp at hp
              have hjl := (List.getElem?_eq_some_iff.1 hb1).1
              simp at hjl
              refine ⟨rfl, hjl, ?_⟩
              rw [List.getElem?_eq_getElem (by simpa using hjl)] at hb1
              simp at hb1
              rw [← hp, ← hb1]
            show RepP G2.S _ (.sl 1 (byteRows z)) (.slice (some ⟨w.heap.size, 0, none⟩) z.size cap)
            rw [← hlen]
            refine .sl 1 w.heap.size 0 cap _ (fun j _ => .int .u8 ((z.data[j]?).getD 0).toNat) (by rw [hlen]; exact hge) (fun r hr' => ?_) (fun j r c p hj hp => ?_) (fun j r c p hj hp => ?_)
            · unfold byteRows at hr'
              rw [List.mem_map] at hr'
              obtain ⟨b, _, rfl⟩ := hr'
              rfl
            · obtain ⟨rfl, hjl, rfl⟩ := hrow j r c p hj hp
              refine ⟨?_, ?_⟩
              · rw [hS2]; exact .inr (by rw [hM]; rfl)
              · have := World.cell?_alloc_mark w.drew (bytesRow z cap) ee ((bytesRow z cap).size, (bytesRow z cap).size + 1) j
                rw [bytesRow_at z cap j hjl] at this
                rw [Nat.zero_add, Nat.mul_one, Nat.add_zero]
                simp only [Option.elim, Array.getElem?_eq_getElem hjl, Option.getD_some]
                exact this
            · obtain ⟨rfl, hjl, rfl⟩ := hrow j r c p hj hp
              simp only [Array.getElem?_eq_getElem hjl, Option.getD_some]
              exact .sc _ rfl
    · rename_i sz rows hx
      have h0 := hr x
      rw [hx] at h0
      cases hb : (isBytes T s && isStr T d && Nat.beq sz 1) with
      | false => rw [hb] at h; exact h.elim
      | true =>
        rw [hb] at h
        simp only [cond_true] at h
        simp only [Bool.and_eq_true] at hb
        obtain ⟨z, rfl, h⟩ := h
        obtain rfl : sz = 1 := Nat.eq_of_beq_eq_true hb.2
        exact Out.of hm (by simp [execOp, bytes_back hT hb.1.1 hb.1.2 (h0 : RepP G.S w (.sl 1 (byteRows z)) (e x))]) (rep_sc rfl) h
    · rename_i hx
      have h0 := hr x
      rw [hx] at h0
      obtain ⟨e1, _⟩ := sc_rep h0
      cases hb : (isBytes T s && isStr T d) with
      | false => rw [hb] at h; exact h.elim
      | true =>
        rw [hb] at h
        simp only [Bool.and_eq_true] at hb
        obtain ⟨ee, hs1, he⟩ := isBytes_spec hT hb.1
        exact Out.of hm (by simp [execOp, e1, run_convert_bytes_nil w s ee hs1 he 0 0 d (isStr_spec hT hb.2)]) (rep_sc rfl) h
    · rename_i b len hx
      have h0 := hr x
      rw [hx] at h0
      replace h0 : RepL G bk w (.own b len) (e x) := h0
      cases hs : isBytes T s with
      | false => rw [hs] at h; exact h.elim
      | true =>
        rw [hs] at h
        simp only [cond_true] at h
        cases hd : isStr T d with
        | true =>
          rw [hd] at h
          simp only [cond_true] at h
          split at h
          · rename_i sz rows hrw
            cases hb : Nat.beq sz 1 with
            | false => rw [hb] at h; exact h.elim
            | true =>
              rw [hb] at h
              obtain rfl : sz = 1 := Nat.eq_of_beq_eq_true hb
              obtain ⟨rfl, z, rfl, h⟩ := h
              refine Out.of hm ?_ (rep_sc rfl) h
              simp [execOp, own_back hT hm hs hd hrw h0]
          · exact h.elim
        | false =>
          rw [hd] at h
          simp only [cond_false] at h
          cases hb : (isBytes T d && Nat.beq s d && Nat.blt 0 len) with
          | false => rw [hb] at h; exact h.elim
          | true =>
            rw [hb] at h
            simp only [cond_true] at h
            simp only [Bool.and_eq_true] at hb
            obtain rfl : s = d := Nat.eq_of_beq_eq_true hb.1.2
            obtain ⟨ee, hs1, he⟩ := isBytes_spec hT hs
            have hpos : 0 < len := Nat.le_of_ble_eq_true hb.2
            have key : ∀ (sz : Nat) (rows : List (List PV)) (G1 : Gh) (b1 : List Blk), Trn G bk w G1 b1 w → Mem C G1 b1 w → b1[b]? = some (.frz sz rows) → rows.length = len → K (.lf (.pv (.sl sz rows))) b1 →
                Out P C G bk w K ((execOp e ⟨dst, .convert s s x, type, pos, after, guard⟩).run P w) := fun sz rows G1 b1 t1 m1 hb1 hl hk => by
              have h1 := t1.repL h0
              obtain ⟨_, sz', rows', h2, _, h4⟩ := h1
              have er : rowsOf b1 b = some (sz, rows) := by unfold rowsOf; rw [hb1]
              rw [er] at h2
              cases h2
              rcases h4 hl with ⟨g, hg, hv⟩ | ⟨_, hz, _⟩
              · obtain ⟨w2, hrun, hc, ho, hsz, hos, htp, hou⟩ := run_markStringish (P := P) w g
                obtain ⟨G2, t2, m2, _, _, _⟩ := m1.share (w' := w2) b _ hb1 (by unfold Alive; rw [hb1]; exact id) hc (fun g' hg' => ho g' fun e => hg' (by rw [e]; exact hg)) hsz hos htp hou
                have hrun2 : (execOp e ⟨dst, .convert s s x, type, pos, after, guard⟩).run P w = .ok (.value (e x)) w2 := by
                  rw [hv]
                  simp [execOp, hv, convert, run_underlying hs1, run_underlying he, hrun]
                rw [hrun2]
                refine .value (t1.trans t2) m2 (x := .lf (.pv (.sl sz rows))) ?_ hk
                exact own_pv m2 hb1 (by rw [hl]; exact t2.repL (t1.repL h0))
              · omega
            simp only [pvK] at h
            split at h
            · rename_i ety sz rows hbb
              obtain ⟨hl, hk⟩ := h
              obtain ⟨G1, t1, m1, _, _, _⟩ := hm.frz b _ (.frz sz rows) hbb rfl
              exact key sz rows G1 _ t1 m1 (List.getElem?_set_self (List.getElem?_eq_some_iff.1 hbb).1) hl hk
            · rename_i sz rows hbb
              obtain ⟨hl, hk⟩ := h
              exact key sz rows G bk (Trn.refl _ _ _) hm hbb hl hk
            · exact h.elim
    · exact h.elim
  | fieldAddr s x f =>
    simp only [opV] at h
    split at h
    · rename_i off hoff
      split at h
      · rename_i b o' hx
        have h0 := hr x
        rw [hx] at h0
        replace h0 : RepL G bk w (.ptr b o') (e x) := h0
        obtain ⟨⟨g, hg, e1⟩, h1⟩ := h0
        exact Out.of (x := .lf (.ptr b (o' + off))) hm (by simp [execOp, e1, run_fieldAt hT hoff]) ⟨⟨g, hg, rfl⟩, h1⟩ h
      · rename_i l hx
        have h0 := hr x
        rw [hx] at h0
        replace h0 : RepL G bk w (.ro l) (e x) := h0
        obtain ⟨g, o', e1, h1⟩ := h0
        exact Out.of (x := .lf (.ro (l.drop off))) hm (by simp [execOp, e1, run_fieldAt hT hoff]) ⟨g, o' + off, rfl, h1.drop off⟩ h
      · rename_i b n i sz o' hx
        have h0 := hr x
        rw [hx] at h0
        replace h0 : RepL G bk w (.ept b n i sz o') (e x) := h0
        obtain ⟨h1, rows, h2, h3, h4⟩ := h0
        rw [h2] at h
        obtain ⟨h5, h⟩ := h
        obtain ⟨g, hg, e1⟩ := h4 h5
        exact Out.of (x := .lf (.ept b n i sz (o' + off))) (u := .pointer (some ⟨g, i * sz + (o' + off), none⟩)) hm (by simp [execOp, e1, run_fieldAt hT hoff, Nat.add_assoc]) ⟨rfl, rows, h2, h3, fun _ => ⟨g, hg, rfl⟩⟩ h
      · exact h.elim
    · exact h.elim
  | index t x ix =>
    simp only [opV] at h
    split at h
    · rename_i s k i hx hi
      have h0 := hr x
      rw [hx] at h0
      obtain ⟨e1, _⟩ := sc_rep h0
      have h1 := hr ix
      rw [hi] at h1
      obtain ⟨e2, _⟩ := sc_rep h1
      cases hb : isStr T t with
      | false => rw [hb] at h; exact h.elim
      | true =>
        rw [hb] at h
        obtain ⟨h2, c, h3, h4⟩ := h
        exact Out.of hm (by simp [execOp, Instr.index, e1, e2, asIntOf, run_underlying (isStr_spec hT hb), h2, h3]) (rep_sc rfl) h4
    · exact h.elim
  | extract x k =>
    simp only [opV] at h
    split at h
    · rename_i ts hx
      have h0 := hr x
      rw [hx] at h0
      obtain ⟨us, e1, hu⟩ := h0
      split at h
      · rename_i l hl
        obtain ⟨v, hv, hrv⟩ := hu.get hl
        exact Out.of (x := .lf l) hm (u := v) (by simp [execOp, e1, Instr.extract, hv]) hrv h
      · rename_i l hl
        obtain ⟨v, hv, hrv⟩ := hu.get hl
        exact Out.of (x := .agg l) hm (u := v) (by simp [execOp, e1, Instr.extract, hv]) hrv h
      · exact h.elim
    · exact h.elim
  | indexAddr t x ix =>
    simp only [opV] at h
    split at h
    · rename_i ee te k i hte hi
      obtain ⟨h1, h2, _⟩ := elemOf_spec hT hte
      have hi0 := hr ix
      rw [hi] at hi0
      obtain ⟨e2, _⟩ := sc_rep hi0
      have hsz := run_sizeOf hT h2 w
      split at h
      · rename_i sz rows hx
        have h0 := hr x
        rw [hx] at h0
        replace h0 : RepP G.S w (.sl sz rows) (e x) := h0
        cases hb : Nat.beq te.size sz with
        | false => rw [hb] at h; exact h.elim
        | true =>
          rw [hb] at h
          have es : te.size = sz := Nat.eq_of_beq_eq_true hb
          obtain ⟨hi1, r, hrr, h⟩ := h
          have hlt := (List.getElem?_eq_some_iff.1 hrr).1
          generalize hex : e x = v at h0
          cases h0 with
          | nil => simp at hlt
          | emp => simp at hlt
          | sl _ g o cap _ vs hc hu hmm hrp =>
            have hc1 : (i.toNat : Int) = i := Int.toNat_of_nonneg hi1
            have hin : 0 ≤ i ∧ i < rows.length := ⟨hi1, by omega⟩
            refine Out.of (x := .lf (.ro r)) (u := .pointer (some ⟨g, o + i.toNat * sz, none⟩)) hm ?_ ⟨g, _, rfl, fun c p hp => ?_⟩ h
            · simp [execOp, Instr.indexAt, e2, hex, asIntOf, run_underlying h1, hin, hsz, es, Addr.add_lit]
            · have := hmm i.toNat r c p hrr hp
              rw [Nat.add_assoc]
              exact ⟨this.1, _, this.2, hrp i.toNat r c p hrr hp⟩
      · rename_i b len hx
        have h0 := hr x
        rw [hx] at h0
        replace h0 : RepL G bk w (.own b len) (e x) := h0
        split at h
        · rename_i sz rows hrow
          cases hb : Nat.beq te.size sz with
          | false => rw [hb] at h; exact h.elim
          | true =>
            rw [hb] at h
            have es : te.size = sz := Nat.eq_of_beq_eq_true hb
            obtain ⟨hlen, hi1, hi2, h⟩ := h
            obtain ⟨_, sz', rows', h3, h4, h5⟩ := h0
            rw [hrow] at h3
            cases h3
            rcases h5 hlen with ⟨g, hg, ev⟩ | ⟨_, h6, _⟩
            · have hin : 0 ≤ i ∧ i < len := ⟨hi1, hi2⟩
              refine Out.of (x := .lf (.ept b len i.toNat sz 0)) (u := .pointer (some ⟨g, i.toNat * sz + 0, none⟩)) hm ?_ ⟨rfl, rows, hrow, by omega, fun _ => ⟨g, hg, rfl⟩⟩ h
              simp [execOp, Instr.indexAt, e2, ev, asIntOf, run_underlying h1, hin, hsz, es, Addr.add_lit]
            · omega
        · exact h.elim
      · exact h.elim
    · exact h.elim
  | slice t x lo hi mx =>
    cases mx with
    | some m => exact h.elim
    | none => ?_
    have hb : ∀ (y : Option Operand) (d n : Int), bnd (y.map ρ) d = some n → (y = none ∧ n = d) ∨ ∃ z k, y = some z ∧ e z = .int k n := fun y d n hy => by
      cases y with
      | none => simp [bnd] at hy; exact .inl ⟨rfl, hy.symm⟩
      | some z =>
        right
        simp only [Option.map_some, bnd] at hy
        split at hy
        · rename_i q hq; cases hq
        · rename_i q k n' hq
          cases hy
          have := hr z
          rw [Option.some.inj hq] at this
          exact ⟨z, k, rfl, (sc_rep this).1⟩
        · cases hy
    have bounds : ∀ (isS : Bool) (len cap : Nat) (l hh : Int), len ≤ cap → bnd (lo.map ρ) 0 = some l → bnd (hi.map ρ) len = some hh → 0 ≤ l → l ≤ hh → hh ≤ len →
        (Instr.sliceBounds isS len cap (lo.map e) (hi.map e) none).run P w = .ok (l.toNat, hh.toNat, cap) w := fun isS len cap l hh hc h1 h2 h3 h4 h5 => by
      have hhn : 0 ≤ hh := by omega
      have e1 : ((hh.toNat : Nat) : Int) = hh := Int.toNat_of_nonneg hhn
      rcases hb lo 0 l h1 with ⟨rfl, rfl⟩ | ⟨z, k, rfl, hz⟩ <;> rcases hb hi len hh h2 with ⟨rfl, rfl⟩ | ⟨z', k', rfl, hz'⟩
      · simp [Instr.sliceBounds]
      · have hin : 0 ≤ hh ∧ hh ≤ cap := ⟨hhn, by omega⟩
        simp [Instr.sliceBounds, Instr.sliceBound, hz', asIntOf, hin]
      · have hin : 0 ≤ l ∧ l ≤ len := ⟨h3, h4⟩
        simp [Instr.sliceBounds, Instr.sliceBound, hz, asIntOf, hin]
      · have hin : 0 ≤ hh ∧ hh ≤ cap := ⟨hhn, by omega⟩
        have hin2 : 0 ≤ l ∧ l ≤ hh := ⟨h3, h4⟩
        have e1' : max hh 0 = hh := by omega
        simp [Instr.sliceBounds, Instr.sliceBound, hz, hz', asIntOf, hin, hin2, e1, e1']
    simp only [opV] at h
    split at h
    · rename_i s hx
      have h0 := hr x
      rw [hx] at h0
      obtain ⟨e1, _⟩ := sc_rep h0
      cases hbs : isStr T t with
      | false => rw [hbs] at h; exact h.elim
      | true =>
        rw [hbs] at h
        simp only [cond_true] at h
        split at h
        case h_2 => exact h.elim
        rename_i l hh hl hhh
        obtain ⟨h1, h2, h3, hk⟩ := h
        have hbd := bounds false s.size s.size l hh (Nat.le_refl _) hl hhh h1 h2 h3
        refine Out.of (u := .string (s.extract l.toNat hh.toNat)) hm ?_ (rep_sc rfl) hk
        simp only [execOp, Instr.sliceAt, Sem.run_bind, run_underlying (isStr_spec hT hbs), Result.andThen_ok, e1, Instr.slice]
        simp [hbd]
    · rename_i l0 hnot hx
      have h0 := hr x
      rw [hx] at h0
      obtain ⟨G1, b1, p, t1, m1, hp, hk⟩ := pvK_sound hm (h0 : RepL G bk w l0 (e x)) h
      split at hk
      case h_2 => exact hk.elim
      rename_i sz rows ee te hte
      obtain ⟨k1, k2, _⟩ := elemOf_spec hT hte
      cases hbs : Nat.beq te.size sz with
      | false => rw [hbs] at hk; exact hk.elim
      | true =>
        rw [hbs] at hk
        have es : te.size = sz := Nat.eq_of_beq_eq_true hbs
        simp only [cond_true] at hk
        split at hk
        case h_2 => exact hk.elim
        rename_i l hh hl hhh
        obtain ⟨h1, h2, h3, hk⟩ := hk
        have hln : l.toNat ≤ hh.toNat := by omega
        have hhl : hh.toNat ≤ rows.length := by omega
        have hlen : ((rows.take hh.toNat).drop l.toNat).length = hh.toNat - l.toNat := by simp; omega
        have hrun : ∀ (a : Option Addr) (cap : Nat), e x = .slice a rows.length cap → rows.length ≤ cap → (execOp e ⟨dst, .slice t x lo hi none, type, pos, after, guard⟩).run P w =
            .ok (.value (.slice (if cap = l.toNat then a else a.map (·.add (l.toNat * sz))) (hh.toNat - l.toNat) (cap - l.toNat))) w := fun a cap ex hc => by
          have hbd := bounds true rows.length cap l hh hc hl hhh h1 h2 h3
          simp only [execOp, Instr.sliceAt, Sem.run_bind, run_underlying k1, Result.andThen_ok, ex, Instr.slice]
          simp [hbd, run_sizeOf hT k2, es]
        generalize hex : e x = v at hp
        generalize hrw : rows = rws at hp
        cases hp with
        | nil =>
          subst hrw
          have e0 : l.toNat = 0 := by simp at hhl; omega
          have e1 : hh.toNat = 0 := by simpa using hhl
          rw [hrun none 0 hex (by simp)]
          refine .value (x := .lf (.pv (.sl sz (([] : List (List PV)).take hh.toNat |>.drop l.toNat)))) t1 m1 ?_ hk
          simp only [e0, e1, if_true, Nat.sub_self, List.take_nil, List.drop_nil]
          exact RepP.nil sz
        | emp _ a0 cap =>
          subst hrw
          have e0 : l.toNat = 0 := by simp at hhl; omega
          have e1 : hh.toNat = 0 := by simpa using hhl
          rw [hrun (some a0) cap hex (by simp)]
          refine .value (x := .lf (.pv (.sl sz (([] : List (List PV)).take hh.toNat |>.drop l.toNat)))) t1 m1 ?_ hk
          simp only [e0, e1, Nat.sub_self, List.take_nil, List.drop_nil]
          split
          · exact RepP.emp sz _ _
          · exact RepP.emp sz _ _
        | sl _ g o cap _ vs hc hu hmm hrp =>
          subst hrw
          rw [hrun (some ⟨g, o, none⟩) cap hex hc]
          refine .value (x := .lf (.pv (.sl sz ((rows.take hh.toNat).drop l.toNat)))) t1 m1 ?_ hk
          have hgetr : ∀ j r, ((rows.take hh.toNat).drop l.toNat)[j]? = some r → rows[l.toNat + j]? = some r := fun j r hj => by
            rw [List.getElem?_drop] at hj
            have hjl := (List.getElem?_eq_some_iff.1 hj).1
            rw [List.getElem?_take_of_lt (by simp at hjl; omega)] at hj
            exact hj
          have hgen : ∀ o', (cap = l.toNat → rows.drop l.toNat = [] ∨ o' = o + l.toNat * sz) → (cap ≠ l.toNat → o' = o + l.toNat * sz) → RepP G1.S w (.sl sz ((rows.take hh.toNat).drop l.toNat)) (.slice (some ⟨g, o', none⟩) (hh.toNat - l.toNat) (cap - l.toNat)) := fun o' ho1 ho2 => by
            rw [← hlen]
            refine .sl sz g o' (cap - l.toNat) _ (fun j c => vs (l.toNat + j) c) (by rw [hlen]; omega) (fun r hr' => hu r (List.mem_of_mem_take (List.mem_of_mem_drop hr'))) (fun j r c p hj hp => ?_) (fun j r c p hj hp => hrp _ r c p (hgetr j r hj) hp)
            have h5 := hmm _ r c p (hgetr j r hj) hp
            have hjl : l.toNat + j < rows.length := (List.getElem?_eq_some_iff.1 (hgetr j r hj)).1
            have ho : o' = o + l.toNat * sz := by
              by_cases hcl : cap = l.toNat
              · omega
              · exact ho2 hcl
            have e5 : o' + (j * sz + c) = o + ((l.toNat + j) * sz + c) := by rw [ho, Nat.add_mul]; omega
            rw [e5]
            exact h5
          by_cases hcl : cap = l.toNat
          · rw [if_pos hcl]
            exact hgen o (fun _ => .inl (List.drop_of_length_le (by omega))) (fun h => absurd hcl h)
          · rw [if_neg hcl]
            simp only [Option.map_some, Addr.add_lit]
            exact hgen _ (fun h => absurd h hcl) (fun _ => rfl)
    · exact h.elim
  | makeFunc fn first caps =>
    cases fn with
    | func f => ?_
    | _ => exact h.elim
    simp only [opV] at h
    split at h
    case h_2 => exact h.elim
    rename_i hfirst
    split at h
    case h_2 => exact h.elim
    rename_i ls hls
    have hf0 : first = #[] := by
      apply Array.toList_inj.1
      simpa using hfirst
    subst hf0
    have hfa : Fa (RepL G bk w) ls (caps.toList.map e) := by
      have : ∀ {l : List Operand} {ls : List Lf}, (l.map ρ).mapM lfOf = some ls → Fa (RepL G bk w) ls (l.map e) := fun {l} => by
        induction l with
        | nil => intro ls h; simp at h; subst h; trivial
        | cons x l ih =>
          intro ls h
          rw [List.map_cons, List.mapM_cons] at h
          cases hx : ρ x with
          | lf y =>
            rw [hx] at h
            simp only [lfOf, Option.bind_eq_bind, Option.bind_some] at h
            cases hq : (l.map ρ).mapM lfOf with
            | none => rw [hq] at h; simp at h
            | some l' =>
              rw [hq] at h
              simp at h
              subst h
              have := hr x
              rw [hx] at this
              exact ⟨this, ih hq⟩
          | _ => rw [hx] at h; simp [lfOf] at h
      exact this hls
    obtain ⟨G1, b1, xs, t1, m1, hxs, _, hk⟩ := argLs_sound hm hfa h
    split at hk
    · rename_i cs hcs
      have hrun : (execOp e ⟨dst, .makeFunc (.func f) #[] caps, type, pos, after, guard⟩).run P w = .ok (.value (.func (.func f) #[] (caps.toList.map e).toArray)) w := by
        have hmp : caps.map e = (caps.toList.map e).toArray := by apply Array.toList_inj.1; simp
        simp [execOp, Instr.makeFunc, hmp]
      rw [hrun]
      refine .value (x := .lf (.fn f cs)) t1 m1 ⟨caps.toList.map e, rfl, ?_⟩ hk
      have : ∀ {xs : List Lf} {cs : List (List PV)} {us : List Value}, xs.mapM roOf = some cs → Fa (RepL G1 b1 w) xs us → Fa (fun l u => ∃ g o, u = .pointer (some ⟨g, o, none⟩) ∧ CellsP G1.S w g o l) cs us := fun {xs} => by
        induction xs with
        | nil => intro cs us h1 h2; simp at h1; subst h1; cases us <;> exact h2
        | cons x xs ih =>
          intro cs us h1 h2
          cases us with
          | nil => exact h2.elim
          | cons u us =>
            rw [List.mapM_cons] at h1
            cases x with
            | ro l =>
              simp only [roOf, Option.bind_eq_bind, Option.bind_some] at h1
              cases hq : xs.mapM roOf with
              | none => rw [hq] at h1; simp at h1
              | some l' => rw [hq] at h1; simp at h1; subst h1; exact ⟨h2.1, ih hq h2.2⟩
            | _ => simp [roOf] at h1
      exact this hcs hxs
    · exact hk.elim
  | buildSlice t len parts =>
    simp only [opV] at h
    split at h
    case h_2 => exact h.elim
    rename_i ee te hte
    obtain ⟨h1, h2, tt, h3, h4⟩ := elemOf_spec hT hte
    cases hb : (Nat.blt 0 te.size && Nat.ble (len * te.size) 16777216 && Nat.ble len 9223372036854775807) with
    | false => rw [hb] at h; exact h.elim
    | true =>
      rw [hb] at h
      simp only [Bool.and_eq_true] at hb
      have hpos : 0 < te.size := by have := Nat.le_of_ble_eq_true hb.1.1; omega
      have hle : len * te.size ≤ 16777216 := Nat.le_of_ble_eq_true hb.1.2
      have hlen : len ≤ maxLen := by have := Nat.le_of_ble_eq_true hb.2; simp only [maxLen]; omega
      simp only [cond_true] at h
      split at h
      case h_2 => exact h.elim
      rename_i ls hls
      obtain ⟨z, hz, hzl, _⟩ := run_zeroValue hT h2 w
      have hzs : te.zero.length = te.size := (hT ee te h2).zs
      have hzc : z.cells.size = te.size := by rw [← hzs, ← hzl]; simp
      let c0 : Array Value := (Array.range (len * te.size)).map (fun i => (if len * te.size = 0 then #[] else z.cells)[i % (if len * te.size = 0 then #[] else z.cells).size]!)
      have hc0 : Fa (RepL G bk w) ((List.range (len * te.size)).map fun i => lsc (te.zero.getD (i % te.size) undef)) c0.toList := by
        refine Fa.of_get (by simp [c0]) fun i x y hx hy => ?_
        have hi : i < len * te.size := by have := (List.getElem?_eq_some_iff.1 hx).1; simpa using this
        have hm' : i % te.size < te.size := Nat.mod_lt _ hpos
        have hne : len * te.size ≠ 0 := by omega
        simp [hi] at hx
        simp [c0, hi, hne, hzc] at hy
        subst hx
        have e1 : te.zero.getD (i % te.size) undef = z.cells[i % te.size]! := by
          rw [← hzl, List.getD_eq_getElem?_getD, Array.getElem?_toList, Array.getElem?_eq_getElem (by omega), getElem!_pos z.cells _ (by omega)]
          rfl
        have hz2 : z.cells[i % te.size]! ∈ te.zero := by
          rw [← hzl, getElem!_pos z.cells _ (by omega)]
          simp
        have e2 : te.zero[i % te.size]?.getD undef = z.cells[i % te.size]! := by rw [← e1]; simp
        rw [e2, ← hy]
        exact RepP.sc _ (plainV_one ((hT ee te h2).zp _ hz2))
      obtain ⟨rs, hrs, hfr⟩ := fill_sound (place' := fun i => some (i * te.size, te.size)) (fun _ _ h => h) hc0 (fa_parts hr parts.toList) hls
      have hlsl : ls.length = len * te.size := by
        have : ∀ (ps : List (Nat × Option (List Lf))) (cells r : List Lf), fillL (fun i => some (i * te.size, te.size)) cells ps = some r → r.length = cells.length := fun ps => by
          induction ps with
          | nil => intro cells r h; simp [fillL] at h; rw [h]
          | cons p ps ih =>
            intro cells r h
            obtain ⟨i, o⟩ := p
            cases o with
            | none => simp [fillL] at h
            | some l =>
              simp only [fillL] at h
              cases hbb : (Nat.beq l.length te.size && Nat.ble (i * te.size + te.size) cells.length) with
              | false => rw [hbb] at h; cases h
              | true =>
                rw [hbb] at h
                simp only [Bool.and_eq_true] at hbb
                have e1 := Nat.eq_of_beq_eq_true hbb.1
                have e2 := Nat.le_of_ble_eq_true hbb.2
                rw [ih _ _ h, length_splice (by omega)]
        rw [this _ _ _ hls]; simp
      obtain ⟨G1, b1, ps, t1, m1, hps, hk⟩ := pvsK_sound hm hfr h
      have hpsl : ps.length = len * te.size := by rw [hps.length, ← hfr.length, hlsl]
      have hrsl : rs.size = len * te.size := by have := hfr.length; simp at this; omega
      obtain ⟨G2, t2, m2, hM, hcp⟩ := m1.alloc (some (.cells rs ee)) (.arr ee te.size (chunk te.size len ps)) len (fun G' hS hM hcp tr => by
        refine .inr ⟨w.heap.size, rs, hM, heap_alloc_new w _, by rw [hcp]; exact hlen, by rw [hcp]; exact hrsl, by rw [hcp, chunk_length]; exact Nat.le_refl _, fun j r hj => ?_⟩
        have hjl : j < len := by have := (List.getElem?_eq_some_iff.1 hj).1; rwa [chunk_length] at this
        rw [chunk_get _ _ _ _ hjl] at hj
        cases hj
        have hjs : j * te.size + te.size ≤ len * te.size := by rw [← Nat.succ_mul]; exact Nat.mul_le_mul_right _ hjl
        refine ⟨by simp; omega, fun c p hp => ?_⟩
        have hcl : c < te.size := by
          have := (List.getElem?_eq_some_iff.1 hp).1
          simp at this; omega
        rw [List.getElem?_take_of_lt hcl, List.getElem?_drop] at hp
        obtain ⟨u, hu, hru⟩ := hps.get hp
        exact ⟨u, by simpa using hu, tr.repP hru⟩)
      have hrun : (execOp e ⟨dst, .buildSlice t len parts, type, pos, after, guard⟩).run P w = .ok (.value (.slice (some ⟨w.heap.size, 0, none⟩) len len)) (w.alloc (.cells rs ee)) := by
        have hl : (parts.map fun x => (match x with | (i, x) => (i, e x))).toList = parts.toList.map fun p => (p.1, e p.2) := by simp
        have hzr : (if len * te.size = 0 then pure #[] else do pure (← zeroValue ee).cells : Sem (Array Value)).run P w = .ok (if len * te.size = 0 then #[] else z.cells) w := by
          by_cases h0 : len * te.size = 0
          · rw [if_pos h0, if_pos h0]; rfl
          · rw [if_neg h0, if_neg h0, Sem.run_bind, hz]; rfl
        simp only [execOp, Instr.buildSlice, Sem.run_bind, run_underlying h1, Result.andThen_ok, run_sizeOf hT h2, Sem.run_ite]
        rw [if_neg (by omega)]
        simp only [hl]
        by_cases h0 : len * te.size = 0
        · have hrs' : Instr.fill (fun i => some (i * te.size, te.size)) ((Array.range (len * te.size)).map (fun i => (#[] : Array Value)[i % (#[] : Array Value).size]!)) (parts.toList.map fun p => (p.1, e p.2)) = some rs := by
            have := hrs
            simp only [c0, if_pos h0] at this
            exact this
          simp only [if_pos h0, Sem.run_pure, Result.andThen_ok, hrs']
          simp [Go.newRow]
        · have hrs' : Instr.fill (fun i => some (i * te.size, te.size)) ((Array.range (len * te.size)).map (fun i => z.cells[i % z.cells.size]!)) (parts.toList.map fun p => (p.1, e p.2)) = some rs := by
            have := hrs
            simp only [c0, if_neg h0] at this
            exact this
          simp only [if_neg h0, Sem.run_bind, hz, Sem.run_pure, Result.andThen_ok, hrs']
          simp [Go.newRow]
      rw [hrun]
      refine .value (x := .lf (.own b1.length len)) (t1.trans t2) m2 ⟨rfl, te.size, chunk te.size len ps, ?_, by rw [chunk_length]; exact Nat.le_refl _, fun _ => .inl ⟨w.heap.size, hM, by rw [hcp]⟩⟩ hk
      unfold rowsOf
      rw [List.getElem?_append_right (Nat.le_refl _)]
      simp
  | call c =>
    obtain ⟨callee, args, argTypes⟩ := c
    simp only [opV] at h
    split at h
    · rename_i x t hargs htys
      have ha : args = #[x] := by apply Array.toList_inj.1; simpa using hargs
      have htt : argTypes = #[t] := by apply Array.toList_inj.1; simpa using htys
      subst ha htt
      have h0 := hr x
      split at h
      · rename_i s hx
        rw [hx] at h0
        obtain ⟨e1, _⟩ := sc_rep h0
        cases hb : isStr T t with
        | false => rw [hb] at h; exact h.elim
        | true =>
          rw [hb] at h
          exact Out.of hm (by simp [execOp, resolve, invoke, builtin, e1, Builtin.len_, run_underlying (isStr_spec hT hb), goInt]) (rep_sc rfl) h
      · rename_i sz rows hx
        rw [hx] at h0
        split at h
        · rename_i et hte
          obtain ⟨k1, _, _⟩ := elemOf_spec hT hte
          generalize hex : e x = v at h0
          have h0' : RepP G.S w (.sl sz rows) v := h0
          cases h0' with
          | nil => exact Out.of hm (by simp [execOp, resolve, invoke, builtin, hex, Builtin.len_, run_underlying k1, goInt]) (rep_sc rfl) h
          | emp => exact Out.of hm (by simp [execOp, resolve, invoke, builtin, hex, Builtin.len_, run_underlying k1, goInt]) (rep_sc rfl) h
          | sl => exact Out.of hm (by simp [execOp, resolve, invoke, builtin, hex, Builtin.len_, run_underlying k1, goInt]) (rep_sc rfl) h
        · exact h.elim
      · rename_i hx
        rw [hx] at h0
        obtain ⟨e1, _⟩ := sc_rep h0
        split at h
        · rename_i et hte
          obtain ⟨k1, _, _⟩ := elemOf_spec hT hte
          exact Out.of hm (by simp [execOp, resolve, invoke, builtin, e1, Builtin.len_, run_underlying k1, goInt]) (rep_sc rfl) h
        · exact h.elim
      · rename_i b len hx
        rw [hx] at h0
        split at h
        · rename_i et sz rows hte hrow
          obtain ⟨k1, _, _⟩ := elemOf_spec hT hte
          obtain ⟨hl, h⟩ := h
          obtain ⟨_, sz', rows', h3, h4, h5⟩ := (h0 : RepL G bk w (.own b len) (e x))
          rw [hrow] at h3
          cases h3
          rcases h5 hl with ⟨g, hg, ev⟩ | ⟨_, hl0, ev⟩
          · exact Out.of hm (by simp [execOp, resolve, invoke, builtin, ev, Builtin.len_, run_underlying k1, goInt]) (rep_sc rfl) h
          · subst hl0
            exact Out.of hm (by simp [execOp, resolve, invoke, builtin, ev, Builtin.len_, run_underlying k1, goInt]) (rep_sc rfl) h
        · exact h.elim
      · exact h.elim
    · rename_i x y t t' hargs htys
      have ha : args = #[x, y] := by apply Array.toList_inj.1; simpa using hargs
      have htt : argTypes = #[t, t'] := by apply Array.toList_inj.1; simpa using htys
      subst ha htt
      cases hbt : Nat.beq t t' with
      | false => rw [hbt] at h; exact h.elim
      | true =>
        rw [hbt] at h
        obtain rfl : t = t' := Nat.eq_of_beq_eq_true hbt
        simp only [cond_true] at h
        split at h
        case h_2 => exact h.elim
        rename_i ee te hte
        obtain ⟨k1, k2, tt, k3, k4⟩ := elemOf_spec hT hte
        cases hbb : (Nat.blt 0 te.size && Nat.blt 0 te.bytes) with
        | false => rw [hbb] at h; exact h.elim
        | true =>
          rw [hbb] at h
          simp only [Bool.and_eq_true] at hbb
          have hp1 : 0 < te.size := by have := Nat.le_of_ble_eq_true hbb.1; omega
          have hp2 : 0 < te.bytes := by have := Nat.le_of_ble_eq_true hbb.2; omega
          simp only [cond_true] at h
          split at h
          case h_2 => exact h.elim
          rename_i l hly
          have hyr : RepL G bk w l (e y) := by have := hr y; rw [hly] at this; exact this
          obtain ⟨G1, b1, p, t1, m1, hpr, rows2, hp2', hk⟩ := pvK_sound hm hyr h
          have hpr2 : RepP G1.S w (.sl te.size rows2) (e y) := by
            rcases hp2' with rfl | ⟨rfl, rfl⟩
            · exact hpr
            · generalize e y = v at hpr
              cases hpr
              exact RepP.nil _
          have hxr := t1.repA (hr x)
          have fin : ∀ {r : Value} {w' : World}, (Builtin.append_ #[t, t] type #[e x, e y]).run P w = .ok r w' → (execOp e ⟨dst, .call ⟨.builtin .append, #[x, y], #[t, t]⟩, type, pos, after, guard⟩).run P w = .ok (.value r) w' := fun hr' => by
            simp [execOp, resolve, invoke, builtin, hr']
          split at hk
          · rename_i b len hx
            rw [hx] at hxr
            split at hk
            case h_2 => exact hk.elim
            rename_i e' sz rows hb
            cases hbc : (Nat.beq e' ee && Nat.beq sz te.size) with
            | false => rw [hbc] at hk; exact hk.elim
            | true =>
              rw [hbc] at hk
              simp only [Bool.and_eq_true] at hbc
              obtain rfl : e' = ee := Nat.eq_of_beq_eq_true hbc.1
              obtain rfl : sz = te.size := Nat.eq_of_beq_eq_true hbc.2
              obtain ⟨rfl, hbd, hk⟩ := hk
              obtain ⟨G2, w', r, h1, h2, h3, h4⟩ := append_sound hT m1 (ty := type) k3 k4 k2 hp1 hp2 hb (hxr : RepL G1 b1 w (.own b rows.length) (e x)) hpr2 hbd
              rw [fin h1]
              exact .value (x := .lf (.own b (rows.length + rows2.length))) (t1.trans h2) h3 h4 hk
          · rename_i hx
            rw [hx] at hxr
            obtain ⟨ex, _⟩ := sc_rep hxr
            obtain ⟨hbd, hk⟩ := hk
            -- a slice of the call's own that is nil yet
            obtain ⟨G2, t2, m2, hM, hcp⟩ := m1.alloc none (.arr ee te.size []) 0 (fun G' hS hM hcp tr => .inl ⟨hM, rfl⟩)
            have hb2 : (b1 ++ [Blk.arr ee te.size []])[b1.length]? = some (.arr ee te.size []) := by rw [List.getElem?_append_right (Nat.le_refl _)]; simp
            have hset : (b1 ++ [Blk.arr ee te.size []]).set b1.length (.arr ee te.size ([] ++ rows2)) = b1 ++ [Blk.arr ee te.size rows2] := by
              rw [List.set_append_right _ _ (Nat.le_refl _)]; simp
            obtain ⟨G3, w', r, h1, h2, h3, h4⟩ := append_sound (w := w) hT m2 (ty := type) (u := e x) (rows := []) k3 k4 k2 hp1 hp2 hb2
              ⟨by rw [ex]; rfl, te.size, [], by unfold rowsOf; rw [hb2], Nat.le_refl _, fun _ => .inr ⟨hM, rfl, ex⟩⟩ (t2.repP hpr2) (by simpa using hbd)
            rw [hset] at h2 h3 h4
            rw [fin h1]
            simp only [List.length_nil, Nat.zero_add] at h4
            exact .value (x := .lf (.own b1.length rows2.length)) ((t1.trans t2).trans h2) h3 h4 hk
          · exact hk.elim
    · rename_i fo
      have hfa := fa_map hr args.toList
      obtain ⟨f, caps, h1, h2, h3⟩ := callK_sound hm (hr fo) hfa h
      have hrun : (execOp e ⟨dst, .call ⟨.value fo, args, argTypes⟩, type, pos, after, guard⟩).run P w = .ok (.enter f (args.toList.map e ++ caps).toArray) w := by
        unfold fnOK at h2
        cases hfn : P.funcs[f]? with
        | none => rw [hfn] at h2; cases h2
        | some fn =>
          rw [hfn] at h2
          simp only [Bool.and_eq_true, bne_iff_ne, ne_eq] at h2
          have hbody : fn.body.isNone = false := by cases hq : fn.body <;> simp_all
          have hmp : args.map e ++ caps.toArray = (args.toList.map e ++ caps).toArray := by apply Array.toList_inj.1; simp
          simp [execOp, resolve, Deferred.ofValue, h1, invoke, callFunc, hfn, h2.1, hmp]
          intro hq
          rw [hq] at hbody
          cases hbody
      rw [hrun]
      exact .enter h3
    · exact h.elim
  | _ => exact h.elim
end
end Go.Rx
