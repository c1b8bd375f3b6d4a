/- The texts of the proof, part 4, in order. -/
import Derived.Test.YtdifjeaplceadaaGreatZc
/- A record's bytes: the page's. -/
set_option linter.unusedVariables false
set_option linter.unusedSimpArgs false
namespace Go.Rx
def cat (a b : ByteArray) : ByteArray := ⟨a.data ++ b.data⟩
theorem bytesOf_append (a b : List UInt8) : bytesOf (a ++ b) = ⟨(bytesOf a).data ++ (bytesOf b).data⟩ := by
  simp [bytesOf]
theorem bytesOf_size (a : List UInt8) : (bytesOf a).size = a.length := rfl
theorem bytesOf_list (s : ByteArray) : bytesOf s.data.toList = s := rfl
theorem bytesOf_data (l : List UInt8) : (bytesOf l).data.toList = l := rfl
theorem be4_rows (x : Int) : [[PV.sc (.int .u8 (IntKind.u8.wrap (x.fdiv 16777216)))], [PV.sc (.int .u8 (IntKind.u8.wrap (x.fdiv 65536)))], [PV.sc (.int .u8 (IntKind.u8.wrap (x.fdiv 256)))], [PV.sc (.int .u8 (IntKind.u8.wrap x))]] = byteRows (bytesOf (be4 x)) := by
  rw [byteZ_wrap, byteZ_wrap, byteZ_wrap, byteZ_wrap]; rfl
theorem bytesOf_app (a b : List UInt8) : bytesOf (a ++ b) = bytesOf a ++ bytesOf b := by
  apply ByteArray.ext
  rw [ByteArray.data_append]
  simp [bytesOf]
theorem app_assoc (a b c : ByteArray) : a ++ b ++ c = a ++ (b ++ c) := ByteArray.append_assoc
/-- The check of bytes. -/
def chkF (h : Nat) (c : UInt8) : Nat := (h * 257 + c.toNat + 1) % 4294967291
def chk (l : List UInt8) : Nat := l.foldl chkF 7
theorem chk_lt (l : List UInt8) : chk l < 4294967291 := by
  have : ∀ (l : List UInt8) (h : Nat), h < 4294967291 → l.foldl chkF h < 4294967291 := by
    intro l
    induction l with
    | nil => intro h hh; exact hh
    | cons c l ih => intro h hh; exact ih _ (Nat.mod_lt _ (by decide))
  exact this l 7 (by decide)
theorem chk_snoc (l : List UInt8) (c : UInt8) : chk (l ++ [c]) = chkF (chk l) c := by rw [chk, List.foldl_append]; rfl
theorem wrapU64 {n : Int} (h0 : 0 ≤ n) (h : n < 18446744073709551616) : IntKind.u64.wrap n = n := by
  have e : ∀ y : Int, IntKind.u64.wrap y = y % 18446744073709551616 := fun y => by
    simp [IntKind.wrap, IntKind.bits, IntKind.signed]
  rw [e]; omega
theorem wrapU32 {n : Int} (h0 : 0 ≤ n) (h : n < 4294967296) : IntKind.u32.wrap n = n := by
  have e : ∀ y : Int, IntKind.u32.wrap y = y % 4294967296 := fun y => by
    simp [IntKind.wrap, IntKind.bits, IntKind.signed]
  rw [e]; omega
abbrev U64 (n : Nat) : AV := .lf (.pv (.sc (.int .u64 n)))
abbrev U32 (n : Nat) : AV := .lf (.pv (.sc (.int .u32 n)))
theorem chk_step {h : Nat} {c : UInt8} (hh : h < 4294967291) :
    (IntKind.u64.wrap (IntKind.u64.wrap (IntKind.u64.wrap ((h : Int) * 257) + IntKind.u64.wrap (c.toNat : Int)) + 1)) % 4294967291 = ((chkF h c : Nat) : Int) ∧ 0 ≤ IntKind.u64.wrap (IntKind.u64.wrap (IntKind.u64.wrap ((h : Int) * 257) + IntKind.u64.wrap (c.toNat : Int)) + 1) := by
  have hc : c.toNat < 256 := c.toNat_lt
  rw [wrapU64 (n := (c.toNat : Int)) (by omega) (by omega), wrapU64 (n := (h : Int) * 257) (by omega) (by omega), wrapU64 (n := (h : Int) * 257 + c.toNat) (by omega) (by omega), wrapU64 (by omega) (by omega)]
  rw [chkF]
  omega
end Go.Rx
namespace Go.Proofs.YtdifjeaplceadaaGreat.Rx
open Go.Rx Go.Proofs Go.Proofs.YtdifjeaplceadaaGreat.RxB

theorem rnum_con (x : Int) : Con P 39 [Go.Rx.I x] (Sx (bytesOf (be4 x))) [] := by
  refine Con.of T_ok Tryz.func39 rfl (by kernel_rfl) (by kernel_rfl) (aw_of T_ok (by kernel_rfl) ?_)
  conv => whnf
  refine ⟨by decide, ?_⟩
  conv => whnf
  refine ⟨by decide, ?_⟩
  conv => whnf
  refine ⟨by decide, ?_⟩
  conv => whnf
  refine ⟨rfl, bytesOf (be4 x), be4_rows x, ?_⟩
  conv => whnf
  exact finA ⟨rfl⟩
theorem rtext_con (s : ByteArray) (h : s.size ≤ 1000000) : Con P 40 [Sx s] (Sx (bytesOf (txtL s))) [] := by
  refine Con.of T_ok Tryz.func40 rfl (by kernel_rfl) (by kernel_rfl) (aw_of T_ok (by kernel_rfl) ?_)
  conv => whnf
  refine callS (rnum_con s.size) rfl ?_
  conv => whnf
  refine ⟨by rw [bytesOf_size, be4_len]; omega, ?_⟩
  conv => whnf
  refine finA ⟨?_⟩
  rw [txtL, bytesOf_app]
  rfl
set_option maxHeartbeats 1000000 in
theorem chk_con (s : ByteArray) (hs : s.size ≤ 1000000) : Con P 41 [Sx s] (U32 (chk s.data.toList)) [] := by
  refine Con.of T_ok Tryz.func41 rfl (by kernel_rfl) (by kernel_rfl) (aw_of T_ok (by kernel_rfl) ?_)
  conv => whnf
  refine AW.loop (fun k : Nat => k ≤ s.size) (fun k => [(0, Sx s), (3, U64 (chk (s.data.toList.take k))), (4, Go.Rx.I k)]) (fun _ => []) (fun k => s.size - k) [] ?_ ?_
  · exact ⟨0, Nat.zero_le _, ⟨rfl, rfl, rfl, trivial⟩, ⟨[], rfl⟩, rfl, rfl⟩
  intro k hk
  have wk : IntKind.i64.wrap ((k : Int) + 1) = ((k + 1 : Nat) : Int) := wrapI (by omega)
  refine aw_of T_ok (by kernel_rfl) ?_
  conv => whnf
  split <;> rename_i hlt <;> conv => whnf
  · have hks : k < s.size := by simpa using hlt
    have hnx : chk (s.data.toList.take (k + 1)) = chkF (chk (s.data.toList.take k)) s[k] := by
      rw [take_succ' (l := s.data.toList) (k := k) (by simpa using hks), chk_snoc]; rfl
    have hcl := chk_lt (s.data.toList.take k)
    have hst := chk_step (c := s[k]) hcl
    refine ⟨by omega, s[k], atB hks, ?_⟩
    conv => whnf
    refine ⟨hst.2, by decide, ?_⟩
    conv => whnf
    exact ⟨k + 1, ⟨hks, by omega⟩, ⟨rfl, congrArg (fun n : Int => AV.lf (.pv (.sc (.int .u64 n)))) (hst.1.trans (congrArg Int.ofNat hnx.symm)), congrArg Go.Rx.I wk, trivial⟩, ⟨[], rfl⟩, rfl, rfl⟩
  · have hks : k = s.size := by have : ¬ ((k : Int) < (s.size : Int)) := of_decide_eq_false hlt
                                omega
    have hl : s.data.toList.take k = s.data.toList := List.take_of_length_le (by rw [hks]; exact Nat.le_refl _)
    have hcl := chk_lt s.data.toList
    rw [hl]
    exact finA ⟨congrArg (fun n : Int => some (AV.lf (.pv (.sc (.int .u32 n))))) (wrapU32 (n := (chk s.data.toList : Nat)) (by omega) (by omega))⟩
set_option maxHeartbeats 1000000 in
theorem of_con (s : ByteArray) (hs : s.size ≤ 1000000) : Con P 61 [Sx s] (U32 (chk s.data.toList)) [] := by
  refine Con.of T_ok Tryz.func61 rfl (by kernel_rfl) (by kernel_rfl) (aw_of T_ok (by kernel_rfl) ?_)
  conv => whnf
  refine AW.loop (fun k : Nat => k ≤ s.size) (fun k => [(0, Sx s), (3, U64 (chk (s.data.toList.take k))), (6, Go.Rx.I s.size), (7, Go.Rx.I k)]) (fun _ => []) (fun k => s.size - k) [] ?_ ?_
  · exact ⟨0, Nat.zero_le _, ⟨rfl, rfl, rfl, rfl, trivial⟩, ⟨[], rfl⟩, rfl, rfl⟩
  intro k hk
  have wk : IntKind.i64.wrap ((k : Int) + 1) = ((k + 1 : Nat) : Int) := wrapI (by omega)
  refine aw_of T_ok (by kernel_rfl) ?_
  conv => whnf
  split <;> rename_i hlt <;> conv => whnf
  · have hks : k < s.size := by simpa using hlt
    have hnx : chk (s.data.toList.take (k + 1)) = chkF (chk (s.data.toList.take k)) s[k] := by
      rw [take_succ' (l := s.data.toList) (k := k) (by simpa using hks), chk_snoc]; rfl
    have hcl := chk_lt (s.data.toList.take k)
    have hst := chk_step (c := s[k]) hcl
    refine ⟨by omega, s[k], atB hks, ?_⟩
    conv => whnf
    refine ⟨hst.2, by decide, ?_⟩
    conv => whnf
    exact ⟨k + 1, ⟨hks, by omega⟩, ⟨rfl, congrArg (fun n : Int => AV.lf (.pv (.sc (.int .u64 n)))) (hst.1.trans (congrArg Int.ofNat hnx.symm)), rfl, congrArg Go.Rx.I wk, trivial⟩, ⟨[], rfl⟩, rfl, rfl⟩
  · have hks : k = s.size := by have : ¬ ((k : Int) < (s.size : Int)) := of_decide_eq_false hlt
                                omega
    have hl : s.data.toList.take k = s.data.toList := List.take_of_length_le (by rw [hks]; exact Nat.le_refl _)
    have hcl := chk_lt s.data.toList
    rw [hl]
    exact finA ⟨congrArg (fun n : Int => some (AV.lf (.pv (.sc (.int .u32 n))))) (wrapU32 (n := (chk s.data.toList : Nat)) (by omega) (by omega))⟩
theorem snum_con (x : Nat) : Con P 76 [U32 x] (Sx (bytesOf (be4 x))) [] := by
  refine Con.of T_ok Tryz.func76 rfl (by kernel_rfl) (by kernel_rfl) (aw_of T_ok (by kernel_rfl) ?_)
  conv => whnf
  refine ⟨by decide, ?_⟩
  conv => whnf
  refine ⟨by decide, ?_⟩
  conv => whnf
  refine ⟨by decide, ?_⟩
  conv => whnf
  refine ⟨rfl, bytesOf (be4 x), be4_rows x, ?_⟩
  conv => whnf
  exact finA ⟨rfl⟩
end Go.Proofs.YtdifjeaplceadaaGreat.Rx

/- A record's bytes: the page's, and its frame. -/
set_option linter.unusedVariables false
set_option linter.unusedSimpArgs false
namespace Go.Proofs.YtdifjeaplceadaaGreat.Rx
open Go.Rx Go.Proofs Go.Proofs.YtdifjeaplceadaaGreat.RxB
set_option maxHeartbeats 1000000 in
theorem rplain_con (r : Rec) (h : SmallR r) : Con P 22 [encRec r] (Sx (bytesOf (plainL r))) [] := by
  have hl := h.len
  have hkey := h.key
  have hbody := h.body
  have hm : (r.steps.map Step.enc).length = r.steps.length := List.length_map ..
  obtain ⟨W, hW⟩ : ∃ W : Nat → ByteArray, ∀ k, W k = bytesOf (headL r ++ moreL r ++ (r.steps.take k).flatMap stepL1) := ⟨_, fun _ => rfl⟩
  obtain ⟨H, hH⟩ : ∃ H : ByteArray, H = bytesOf (headL r) := ⟨_, rfl⟩
  have e0 : bytesOf (be4 r.kind) ++ bytesOf (be4 r.id) ++ bytesOf (be4 r.n) ++ bytesOf (be4 0) = H := by
    rw [hH, headL]; simp [numsL, bytesOf_app, app_assoc]
  have sH : H.size = 16 := by rw [hH]; rfl
  have e1 : H ++ bytesOf (txtL r.key) ++ bytesOf (txtL r.body) ++ bytesOf (be4 ((r.steps.map Step.enc).length : Int)) = W 0 := by
    rw [hW, hH, hm, moreL]; simp [bytesOf_app, app_assoc]
  obtain ⟨p, hp⟩ : ∃ p, bytesOf (plainL r) = p := ⟨_, rfl⟩
  rw [hp]
  refine Con.of T_ok Tryz.func22 rfl (by kernel_rfl) (by kernel_rfl) (aw_ofC T_ok 2002 (by kernel_rfl) ?_)
  conv => whnf
  refine AW.draw T_ok rfl (listPl [0, 1, 3, 4, 7, 8, 2, 5, 6, 9, 10, 11, 12, 13]) (by kernel_rfl) (by kernel_rfl) ?_
  conv => whnf
  refine callS (rnum_con r.kind) rfl ?_
  conv => whnf
  refine callS (rnum_con r.id) rfl ?_
  conv => whnf
  refine ⟨by simp only [ByteArray.size_append, bytesOf_size, be4_len]; omega, ?_⟩
  conv => whnf
  refine callS (rnum_con r.n) rfl ?_
  conv => whnf
  refine ⟨by simp only [ByteArray.size_append, bytesOf_size, be4_len]; omega, ?_⟩
  conv => whnf
  refine callS (rnum_con 0) rfl ?_
  conv => whnf
  refine ⟨by simp only [ByteArray.size_append, bytesOf_size, be4_len]; omega, ?_⟩
  conv => whnf
  refine AW.meet (fun _ : Unit => True) (fun _ => [(1, .lf (.ptr 0 0)), (3, Sx H)]) (fun _ => [recBlk r]) [] ⟨(), trivial, ⟨rfl, congrArg (fun b => Sx b) e0, trivial⟩, ⟨[], rfl⟩, rfl, rfl⟩ ?_
  rintro _ _
  refine aw_of T_ok (by kernel_rfl) ?_
  conv => whnf
  split <;> rename_i hk <;> conv => whnf
  · have hk1 : ¬ r.kind = 1 := by simpa using hk
    have hp2 : H = p := by rw [hH, ← hp, plainL, if_neg hk1]
    exact finA ⟨congrArg (fun b => some (Sx b)) hp2⟩
  have hk1 : r.kind = 1 := by simpa using hk
  have hp2 : W r.steps.length = p := by rw [← hp, plainL, if_pos hk1, hW, List.take_length]
  refine AW.draw T_ok rfl (listPl [0, 1, 2, 5, 6, 9, 10, 11, 3, 4, 7, 8, 12, 13, 14]) (by kernel_rfl) (by kernel_rfl) ?_
  conv => whnf
  refine callS (rtext_con r.key (by omega)) rfl ?_
  conv => whnf
  refine ⟨by simp only [ByteArray.size_append, bytesOf_size, be4_len, txt_len]; omega, ?_⟩
  conv => whnf
  refine callS (rtext_con r.body (by omega)) rfl ?_
  conv => whnf
  refine ⟨by simp only [ByteArray.size_append, bytesOf_size, be4_len, txt_len]; omega, ?_⟩
  conv => whnf
  refine callS (rnum_con ((r.steps.map Step.enc).length : Int)) rfl ?_
  conv => whnf
  refine ⟨by simp only [ByteArray.size_append, bytesOf_size, be4_len, txt_len]; omega, ?_⟩
  conv => whnf
  refine AW.loop (fun k : Nat => k ≤ r.steps.length) (fun k => [(1, .lf (.ptr 0 0)), (3, Sx (W k)), (4, Go.Rx.I k)]) (fun k => [recBlk r]) (fun k => r.steps.length - k) [] ?_ ?_
  · exact ⟨0, Nat.zero_le _, ⟨rfl, congrArg (fun b => Sx b) e1, rfl, trivial⟩, ⟨[], rfl⟩, rfl, rfl⟩
  intro k hk
  have wk : IntKind.i64.wrap ((k : Int) + 1) = ((k + 1 : Nat) : Int) := wrapI (by omega)
  have hml := more_len h
  have hbl : (W k).size ≤ 4128 + 424 * k := by
    have := steps_len (l := r.steps.take k) fun x hx => h.st x (List.mem_of_mem_take hx)
    rw [hW, bytesOf_size]
    simp only [List.length_append] at this ⊢
    rw [List.length_take] at this
    have : 424 * min k r.steps.length = 424 * k := by omega
    have := head_len r
    omega
  refine aw_of T_ok (by kernel_rfl) ?_
  conv => whnf
  split <;> rename_i hlt <;> conv => whnf
  · have hkl : k < r.steps.length := by have : (k : Int) < ((r.steps.map Step.enc).length : Int) := of_decide_eq_true hlt
                                        omega
    have hrow : (r.steps.map Step.enc)[k]? = some r.steps[k].enc := by simp [hkl]
    have hnx : W (k + 1) = W k ++ bytesOf (stepL1 r.steps[k]) := by
      rw [hW, hW, take_succ' hkl, List.flatMap_append]; simp [bytesOf_app, app_assoc]
    have hx := h.st r.steps[k] (List.getElem_mem _)
    generalize r.steps[k] = x at hrow hnx hx
    have e2 : W k ++ bytesOf (txtL x.nm) ++ bytesOf (be4 x.service) ++ bytesOf (txtL x.op) ++ bytesOf (txtL x.undo) ++ bytesOf (txtL x.who) ++ bytesOf (be4 x.n) = W (k + 1) := by
      rw [hnx, stepL1]; simp [bytesOf_app, app_assoc]
    refine ⟨by omega, _, hrow, ?_⟩
    conv => whnf
    refine AW.meet (fun _ : Unit => True) (fun _ => [(1, .lf (.ptr 0 0)), (3, Sx (W k)), (4, Go.Rx.I k), (5, .lf (.ptr 1 0))]) (fun _ => [recBlk r, stepBlk x]) [] ⟨(), trivial, ⟨rfl, rfl, rfl, rfl, trivial⟩, ⟨[], rfl⟩, rfl, rfl⟩ ?_
    rintro _ _
    refine AW.draw T_ok rfl (listPl [0, 1, 2, 5, 6, 9, 10, 13, 14, 17, 18, 21, 22, 3, 4, 7, 8, 11, 12, 15, 16, 19, 20, 23, 24, 25]) (by kernel_rfl) (by kernel_rfl) ?_
    conv => whnf
    refine callS (rtext_con x.nm (by omega)) rfl ?_
    conv => whnf
    refine ⟨by simp only [ByteArray.size_append, bytesOf_size, be4_len, txt_len]; omega, ?_⟩
    conv => whnf
    refine callS (rnum_con x.service) rfl ?_
    conv => whnf
    refine ⟨by simp only [ByteArray.size_append, bytesOf_size, be4_len, txt_len]; omega, ?_⟩
    conv => whnf
    refine callS (rtext_con x.op (by omega)) rfl ?_
    conv => whnf
    refine ⟨by simp only [ByteArray.size_append, bytesOf_size, be4_len, txt_len]; omega, ?_⟩
    conv => whnf
    refine callS (rtext_con x.undo (by omega)) rfl ?_
    conv => whnf
    refine ⟨by simp only [ByteArray.size_append, bytesOf_size, be4_len, txt_len]; omega, ?_⟩
    conv => whnf
    refine callS (rtext_con x.who (by omega)) rfl ?_
    conv => whnf
    refine ⟨by simp only [ByteArray.size_append, bytesOf_size, be4_len, txt_len]; omega, ?_⟩
    conv => whnf
    refine callS (rnum_con x.n) rfl ?_
    conv => whnf
    refine ⟨by simp only [ByteArray.size_append, bytesOf_size, be4_len, txt_len]; omega, ?_⟩
    conv => whnf
    exact ⟨k + 1, ⟨hkl, by omega⟩, ⟨rfl, congrArg (fun b => Sx b) e2, congrArg Go.Rx.I wk, trivial⟩, ⟨[stepBlk x], rfl⟩, rfl, rfl⟩
  · have hkl : k = r.steps.length := by have : ¬ ((k : Int) < ((r.steps.map Step.enc).length : Int)) := of_decide_eq_false hlt
                                        omega
    have hp3 : W k = p := hkl ▸ hp2
    exact finA ⟨congrArg (fun b => some (Sx b)) hp3⟩
end Go.Proofs.YtdifjeaplceadaaGreat.Rx

/- A record's frame, and its bytes. -/
set_option linter.unusedVariables false
set_option linter.unusedSimpArgs false
namespace Go.Rx
/-- A frame's head: the size, the check. -/
def frmL (l : List UInt8) : List UInt8 := be4 l.length ++ be4 (chk (be4 l.length ++ l)) ++ l
def frame (s : ByteArray) : ByteArray := if 4000 < s.size then ⟨#[]⟩ else bytesOf (frmL s.data.toList)
def plainS (r : Rec) : ByteArray := bytesOf (plainL r)
abbrev strI (p : ByteArray × Int) : AV := .tup [.lf (.pv (pS p.1)), .lf (.pv (pI p.2))]
abbrev strB (p : ByteArray × Bool) : AV := .tup [.lf (.pv (pS p.1)), .lf (.pv (.sc (.bool p.2)))]
def frmR (r : Rec) : ByteArray × Int := if 4000 < (plainS r).size then (⟨#[]⟩, 2) else (frame (plainS r), 0)
def bytesR (r : Rec) : ByteArray × Int := if recB r then frmR r else (⟨#[]⟩, 1)
def sizeR (r : Rec) : Int × Int := (((bytesR r).1.size : Int), (bytesR r).2)
def bytes9R (r : Rec) : ByteArray × Bool := if 4000 < (plainS r).size then (⟨#[]⟩, false) else (frame (plainS r), true)
theorem finSI {a : ByteArray} {n : Int} {q : ByteArray × Int} (h : q = (a, n)) : ∃ zs, Fa WkA [Sx a, Go.Rx.I n] zs ∧ pack zs = some (strI q) := ⟨_, wk_refl _, by rw [h]; rfl⟩
theorem finSB {a : ByteArray} {n : Bool} {q : ByteArray × Bool} (h : q = (a, n)) : ∃ zs, Fa WkA [Sx a, Bl n] zs ∧ pack zs = some (strB q) := ⟨_, wk_refl _, by rw [h]; rfl⟩
theorem frm_eq {s : ByteArray} : bytesOf (be4 s.size) ++ bytesOf (be4 (chk (bytesOf (be4 s.size) ++ s).data.toList)) ++ s = bytesOf (frmL s.data.toList) := by
  have e1 : (bytesOf (be4 s.size) ++ s).data.toList = be4 s.size ++ s.data.toList := by rw [ByteArray.data_append, Array.toList_append]; rfl
  have e2 : s.size = s.data.toList.length := rfl
  rw [e1, frmL, bytesOf_app, bytesOf_app, ← e2]
  rfl
end Go.Rx
namespace Go.Proofs.YtdifjeaplceadaaGreat.Rx
open Go.Rx Go.Proofs Go.Proofs.YtdifjeaplceadaaGreat.RxB
theorem frame9_con (s : ByteArray) : Con P 23 [Sx s] (Sx (frame s)) [] := by
  refine Con.of T_ok Tryz.func23 rfl (by kernel_rfl) (by kernel_rfl) (aw_of T_ok (by kernel_rfl) ?_)
  conv => whnf
  split <;> rename_i hs <;> conv => whnf
  · have hs1 : 4000 < s.size := by have := of_decide_eq_true hs; omega
    exact finA ⟨congrArg (fun b => some (Sx b)) (by rw [frame, if_pos hs1])⟩
  have hs1 : ¬ 4000 < s.size := by have : ¬ ((4000 : Int) < (s.size : Int)) := of_decide_eq_false hs
                                   omega
  have z : (bytesOf (be4 s.size) ++ s).size ≤ 5000 := by simp only [ByteArray.size_append, bytesOf_size, be4_len]; omega
  have e : bytesOf (be4 s.size) ++ bytesOf (be4 (chk (bytesOf (be4 s.size) ++ s).data.toList)) ++ s = frame s := by rw [frm_eq, frame, if_neg hs1]
  have wx : IntKind.i64.wrap ((chk (bytesOf (be4 s.size) ++ s).data.toList : Nat) : Int) = (chk (bytesOf (be4 s.size) ++ s).data.toList : Nat) := wrapI (by have := chk_lt (bytesOf (be4 s.size) ++ s).data.toList; omega)
  have z4 : ∀ x : Int, (bytesOf (be4 x)).size = 4 := fun _ => rfl
  refine callS (rnum_con s.size) rfl ?_
  conv => whnf
  refine ⟨by rw [z4]; omega, ?_⟩
  conv => whnf
  refine callS (chk_con (bytesOf (be4 s.size) ++ s) (by omega)) rfl ?_
  conv => whnf
  refine callS (rnum_con _) rfl ?_
  conv => whnf
  refine ⟨by rw [z4, z4]; omega, ?_⟩
  conv => whnf
  refine ⟨by rw [ByteArray.size_append, z4, z4]; omega, ?_⟩
  conv => whnf
  exact finA ⟨congrArg (fun b => some (Sx b)) (by rw [wx]; exact e)⟩
theorem add_con (s : ByteArray) : Con P 54 [Sx s] (Sx (frame s)) [] := by
  refine Con.of T_ok Tryz.func54 rfl (by kernel_rfl) (by kernel_rfl) (aw_of T_ok (by kernel_rfl) ?_)
  conv => whnf
  split <;> rename_i hs <;> conv => whnf
  · have hs1 : 4000 < s.size := by have := of_decide_eq_true hs; omega
    exact finA ⟨congrArg (fun b => some (Sx b)) (by rw [frame, if_pos hs1])⟩
  have hs1 : ¬ 4000 < s.size := by have : ¬ ((4000 : Int) < (s.size : Int)) := of_decide_eq_false hs
                                   omega
  have z : (bytesOf (be4 s.size) ++ s).size ≤ 5000 := by simp only [ByteArray.size_append, bytesOf_size, be4_len]; omega
  have e : bytesOf (be4 s.size) ++ bytesOf (be4 (chk (bytesOf (be4 s.size) ++ s).data.toList)) ++ s = frame s := by rw [frm_eq, frame, if_neg hs1]
  have wx : IntKind.u32.wrap (s.size : Int) = (s.size : Int) := wrapU32 (by omega) (by omega)
  have z4 : ∀ x : Int, (bytesOf (be4 x)).size = 4 := fun _ => rfl
  have cn : Con P 76 [.lf (.pv (.sc (.int .u32 (IntKind.u32.wrap (s.size : Int)))))] (Sx (bytesOf (be4 s.size))) [] := by rw [wx]; exact snum_con s.size
  refine callS cn rfl ?_
  conv => whnf
  refine ⟨by rw [z4]; omega, ?_⟩
  conv => whnf
  refine callS (of_con (bytesOf (be4 s.size) ++ s) (by omega)) rfl ?_
  conv => whnf
  refine callS (snum_con _) rfl ?_
  conv => whnf
  refine ⟨by rw [z4, z4]; omega, ?_⟩
  conv => whnf
  refine ⟨by rw [ByteArray.size_append, z4, z4]; omega, ?_⟩
  conv => whnf
  exact finA ⟨congrArg (fun b => some (Sx b)) e⟩
theorem rframe_con (r : Rec) (h : SmallR r) : Con P 33 [encRec r] (strI (frmR r)) [] := by
  refine Con.of T_ok Tryz.func33 rfl (by kernel_rfl) (by kernel_rfl) (aw_of T_ok (by kernel_rfl) ?_)
  conv => whnf
  refine callS (spell_con r h) rfl ?_
  conv => whnf
  split <;> rename_i hs <;> conv => whnf
  · have hs1 : 4000 < (plainS r).size := by have : (4000 : Int) < ((plainS r).size : Int) := of_decide_eq_true hs
                                            omega
    exact finSI (by rw [frmR, if_pos hs1])
  have hs1 : ¬ 4000 < (plainS r).size := by have : ¬ ((4000 : Int) < ((plainS r).size : Int)) := of_decide_eq_false hs
                                            omega
  refine callS (add_con (plainS r)) rfl ?_
  conv => whnf
  exact finSI (by rw [frmR, if_neg hs1])
theorem bytes_con (r : Rec) (h : r.Ok) : Con P 13 [encRec r] (strI (bytesR r)) [] := by
  refine Con.of T_ok Tryz.func13 rfl (by kernel_rfl) (by kernel_rfl) (aw_of T_ok (by kernel_rfl) ?_)
  conv => whnf
  refine callS (recMay_con r h) rfl ?_
  conv => whnf
  split <;> rename_i hs <;> conv => whnf
  · have hs1 : ¬ recB r = true := by simpa using hs
    exact finSI (by rw [bytesR, if_neg hs1])
  have hs1 : recB r = true := by simpa using hs
  refine callS (rframe_con r (small_of hs1)) rfl ?_
  conv => whnf
  exact finSI (by rw [bytesR, if_pos hs1])
theorem rsize_con (r : Rec) (h : r.Ok) : Con P 19 [encRec r] (.tup [.lf (.pv (pI (sizeR r).1)), .lf (.pv (pI (sizeR r).2))]) [] := by
  refine Con.of T_ok Tryz.func19 rfl (by kernel_rfl) (by kernel_rfl) (aw_of T_ok (by kernel_rfl) ?_)
  conv => whnf
  refine callS (bytes_con r h) rfl ?_
  conv => whnf
  exact finA ⟨rfl⟩
theorem rcheck_con (r : Rec) (h : r.Ok) : Con P 25 [encRec r] (Go.Rx.I (if recB r then 0 else 1)) [] := by
  refine Con.of T_ok Tryz.func25 rfl (by kernel_rfl) (by kernel_rfl) (aw_of T_ok (by kernel_rfl) ?_)
  conv => whnf
  refine callS (recMay_con r h) rfl ?_
  conv => whnf
  split <;> rename_i hs <;> conv => whnf
  · have hs1 : ¬ recB r = true := by simpa using hs
    exact finA ⟨congrArg (fun b => some (Go.Rx.I b)) (by rw [if_neg hs1])⟩
  have hs1 : recB r = true := by simpa using hs
  exact finA ⟨congrArg (fun b => some (Go.Rx.I b)) (by rw [if_pos hs1])⟩
theorem bytes9_con (r : Rec) (h : SmallR r) : Con P 21 [encRec r] (strB (bytes9R r)) [] := by
  refine Con.of T_ok Tryz.func21 rfl (by kernel_rfl) (by kernel_rfl) (aw_of T_ok (by kernel_rfl) ?_)
  conv => whnf
  refine callS (rplain_con r h) rfl ?_
  conv => whnf
  split <;> rename_i hs <;> conv => whnf
  · have hs1 : 4000 < (plainS r).size := by have : (4000 : Int) < ((plainS r).size : Int) := of_decide_eq_true hs
                                            omega
    exact finSB (by rw [bytes9R, if_pos hs1])
  have hs1 : ¬ 4000 < (plainS r).size := by have : ¬ ((4000 : Int) < ((plainS r).size : Int)) := of_decide_eq_false hs
                                            omega
  refine callS (frame9_con (plainS r)) rfl ?_
  conv => whnf
  exact finSB (by rw [bytes9R, if_neg hs1])
end Go.Proofs.YtdifjeaplceadaaGreat.Rx

/- Readers of a record's bytes: the code's and the page's. -/
set_option linter.unusedVariables false
set_option linter.unusedSimpArgs false
namespace Go.Rx
theorem or_sum {w a b k : Nat} (hb : b < 2 ^ k) (hd : ∃ q, a = 2 ^ k * q) (hl : a + b < 2 ^ w) : (BitVec.ofInt w (a : Int) ||| BitVec.ofInt w (b : Int)).toNat = a + b := by
  obtain ⟨q, rfl⟩ := hd
  have h1 : (BitVec.ofInt w ((2 ^ k * q : Nat) : Int)) = BitVec.ofNat w (2 ^ k * q) := BitVec.ofInt_natCast ..
  have h2 : (BitVec.ofInt w ((b : Nat) : Int)) = BitVec.ofNat w b := BitVec.ofInt_natCast ..
  rw [h1, h2, BitVec.toNat_or, BitVec.toNat_ofNat, BitVec.toNat_ofNat, Nat.mod_eq_of_lt (by omega), Nat.mod_eq_of_lt (by omega), Nat.two_pow_add_eq_or_of_lt hb]
def num4 : List UInt8 → Nat
  | a :: b :: c :: d :: _ => ((a.toNat * 256 + b.toNat) * 256 + c.toNat) * 256 + d.toNat
  | _ => 0
theorem num4_lt (l : List UInt8) : num4 l < 4294967296 := by
  unfold num4
  split
  · rename_i a b c d _
    have := a.toNat_lt; have := b.toNat_lt; have := c.toNat_lt; have := d.toNat_lt
    omega
  · decide
theorem num4_u32 (a b c d : UInt8) :
    IntKind.u32.wrap ((BitVec.ofInt 32 (IntKind.u32.wrap ((BitVec.ofInt 32 (IntKind.u32.wrap ((BitVec.ofInt 32 (IntKind.u32.wrap (IntKind.u32.wrap (a.toNat : Int) * 16777216)) ||| BitVec.ofInt 32 (IntKind.u32.wrap (IntKind.u32.wrap (b.toNat : Int) * 65536))).toNat : Int)) ||| BitVec.ofInt 32 (IntKind.u32.wrap (IntKind.u32.wrap (c.toNat : Int) * 256))).toNat : Int)) ||| BitVec.ofInt 32 (IntKind.u32.wrap (d.toNat : Int))).toNat : Int) = (num4 [a, b, c, d] : Nat) := by
  have e0 : num4 [a, b, c, d] = ((a.toNat * 256 + b.toNat) * 256 + c.toNat) * 256 + d.toNat := rfl
  rw [e0]
  have ha := a.toNat_lt; have hb := b.toNat_lt; have hc := c.toNat_lt; have hd := d.toNat_lt
  generalize a.toNat = a at *; generalize b.toNat = b at *; generalize c.toNat = c at *; generalize d.toNat = d at *
  have e1 : IntKind.u32.wrap (IntKind.u32.wrap (a : Int) * 16777216) = ((a * 16777216 : Nat) : Int) := by rw [wrapU32 (n := (a : Int)) (by omega) (by omega), wrapU32 (by omega) (by omega)]; omega
  have e2 : IntKind.u32.wrap (IntKind.u32.wrap (b : Int) * 65536) = ((b * 65536 : Nat) : Int) := by rw [wrapU32 (n := (b : Int)) (by omega) (by omega), wrapU32 (by omega) (by omega)]; omega
  have e3 : IntKind.u32.wrap (IntKind.u32.wrap (c : Int) * 256) = ((c * 256 : Nat) : Int) := by rw [wrapU32 (n := (c : Int)) (by omega) (by omega), wrapU32 (by omega) (by omega)]; omega
  rw [e1, e2, e3, or_sum (k := 24) (by omega) ⟨a, by omega⟩ (by omega), wrapU32 (n := (d : Int)) (by omega) (by omega),
    wrapU32 (n := ((a * 16777216 + b * 65536 : Nat) : Int)) (by omega) (by omega),
    or_sum (k := 16) (by omega) ⟨a * 256 + b, by omega⟩ (by omega), wrapU32 (n := ((a * 16777216 + b * 65536 + c * 256 : Nat) : Int)) (by omega) (by omega),
    or_sum (k := 8) (by omega) ⟨a * 65536 + b * 256 + c, by omega⟩ (by omega), wrapU32 (by omega) (by omega)]
  omega
theorem num4_i64 (a b c d : UInt8) :
    IntKind.i64.wrap ((BitVec.ofInt 64 (IntKind.i64.wrap ((BitVec.ofInt 64 (IntKind.i64.wrap ((BitVec.ofInt 64 (IntKind.i64.wrap (IntKind.i64.wrap (a.toNat : Int) * 16777216)) ||| BitVec.ofInt 64 (IntKind.i64.wrap (IntKind.i64.wrap (b.toNat : Int) * 65536))).toNat : Int)) ||| BitVec.ofInt 64 (IntKind.i64.wrap (IntKind.i64.wrap (c.toNat : Int) * 256))).toNat : Int)) ||| BitVec.ofInt 64 (IntKind.i64.wrap (d.toNat : Int))).toNat : Int) = (num4 [a, b, c, d] : Nat) := by
  have e0 : num4 [a, b, c, d] = ((a.toNat * 256 + b.toNat) * 256 + c.toNat) * 256 + d.toNat := rfl
  rw [e0]
  have ha := a.toNat_lt; have hb := b.toNat_lt; have hc := c.toNat_lt; have hd := d.toNat_lt
  generalize a.toNat = a at *; generalize b.toNat = b at *; generalize c.toNat = c at *; generalize d.toNat = d at *
  have e1 : IntKind.i64.wrap (IntKind.i64.wrap (a : Int) * 16777216) = ((a * 16777216 : Nat) : Int) := by rw [wrapI (n := (a : Int)) (by omega), wrapI (by omega)]; omega
  have e2 : IntKind.i64.wrap (IntKind.i64.wrap (b : Int) * 65536) = ((b * 65536 : Nat) : Int) := by rw [wrapI (n := (b : Int)) (by omega), wrapI (by omega)]; omega
  have e3 : IntKind.i64.wrap (IntKind.i64.wrap (c : Int) * 256) = ((c * 256 : Nat) : Int) := by rw [wrapI (n := (c : Int)) (by omega), wrapI (by omega)]; omega
  rw [e1, e2, e3, or_sum (k := 24) (by omega) ⟨a, by omega⟩ (by omega), wrapI (n := (d : Int)) (by omega),
    wrapI (n := ((a * 16777216 + b * 65536 : Nat) : Int)) (by omega),
    or_sum (k := 16) (by omega) ⟨a * 256 + b, by omega⟩ (by omega), wrapI (n := ((a * 16777216 + b * 65536 + c * 256 : Nat) : Int)) (by omega),
    or_sum (k := 8) (by omega) ⟨a * 65536 + b * 256 + c, by omega⟩ (by omega), wrapI (by omega)]
  omega
theorem num4_of {s : ByteArray} (h : 4 ≤ s.size) : num4 s.data.toList = num4 [s[0], s[1], s[2], s[3]] := by
  have e : s.data.toList = s[0] :: s[1] :: s[2] :: s[3] :: s.data.toList.drop 4 := by
    rw [← dropB s 3 (by omega), ← dropB s 2 (by omega), ← dropB s 1 (by omega), ← dropB s 0 (by omega), List.drop_zero]
  rw [e]; rfl
theorem ext_list (s : ByteArray) (i j : Nat) : (s.extract i j).data.toList = (s.data.toList.drop i).take (j - i) := by
  rw [ByteArray.data_extract, Array.toList_extract]
theorem num4_take (l : List UInt8) : num4 (l.take 4) = num4 l := by
  match l with
  | [] => rfl
  | [a] => rfl
  | [a, b] => rfl
  | [a, b, c] => rfl
  | a :: b :: c :: d :: t => rfl
abbrev rdr (q : ByteArray × Bool) : Blk := .var [.pv (pS q.1), .pv (.sc (.bool q.2))]
/-- Reading: so many bytes, a number, a text. -/
def rdB (q : ByteArray × Bool) (n : Int) : ByteArray × (ByteArray × Bool) :=
  if q.2 = true ∨ n < 0 ∨ (q.1.size : Int) < n then (⟨#[]⟩, (q.1, true)) else (q.1.extract 0 n.toNat, (q.1.extract n.toNat q.1.size, q.2))
def sgn (n : Nat) : Int := if 2147483648 ≤ n then (n : Int) - 4294967296 else n
def rdN (q : ByteArray × Bool) : Int × (ByteArray × Bool) := if (rdB q 4).2.2 then (0, (rdB q 4).2) else (sgn (num4 (rdB q 4).1.data.toList), (rdB q 4).2)
def rdT (q : ByteArray × Bool) : ByteArray × (ByteArray × Bool) := rdB (rdN q).2 (rdN q).1
end Go.Rx
namespace Go.Proofs.YtdifjeaplceadaaGreat.Rx
open Go.Rx Go.Proofs Go.Proofs.YtdifjeaplceadaaGreat.RxB
theorem sealnum_con (s : ByteArray) (h : 4 ≤ s.size) : Con P 60 [Sx s] (U32 (num4 s.data.toList)) [] := by
  refine Con.of T_ok Tryz.func60 rfl (by kernel_rfl) (by kernel_rfl) (aw_of T_ok (by kernel_rfl) ?_)
  conv => whnf
  refine AW.draw T_ok rfl (seqPl 0 19) (by kernel_rfl) (by kernel_rfl) ?_
  conv => whnf
  refine ⟨by decide, s[0], atB (by omega), ?_⟩
  conv => whnf
  refine ⟨by decide, ?_⟩
  conv => whnf
  refine ⟨by decide, s[1], atB (by omega), ?_⟩
  conv => whnf
  refine ⟨by decide, ?_⟩
  conv => whnf
  refine ⟨rfl, ?_⟩
  conv => whnf
  refine ⟨by decide, s[2], atB (by omega), ?_⟩
  conv => whnf
  refine ⟨by decide, ?_⟩
  conv => whnf
  refine ⟨rfl, ?_⟩
  conv => whnf
  refine ⟨by decide, s[3], atB (by omega), ?_⟩
  conv => whnf
  refine ⟨rfl, ?_⟩
  conv => whnf
  exact finA ⟨congrArg (fun n : Int => some (AV.lf (.pv (.sc (.int .u32 n))))) ((num4_u32 s[0] s[1] s[2] s[3]).trans (congrArg Int.ofNat (num4_of h).symm))⟩
theorem read9_con (s : ByteArray) (h : 4 ≤ s.size) : Con P 67 [Sx s] (Go.Rx.I (num4 s.data.toList)) [] := by
  refine Con.of T_ok Tryz.func67 rfl (by kernel_rfl) (by kernel_rfl) (aw_of T_ok (by kernel_rfl) ?_)
  conv => whnf
  refine AW.draw T_ok rfl (seqPl 0 19) (by kernel_rfl) (by kernel_rfl) ?_
  conv => whnf
  refine ⟨by decide, s[0], atB (by omega), ?_⟩
  conv => whnf
  refine ⟨by decide, ?_⟩
  conv => whnf
  refine ⟨by decide, s[1], atB (by omega), ?_⟩
  conv => whnf
  refine ⟨by decide, ?_⟩
  conv => whnf
  refine ⟨rfl, ?_⟩
  conv => whnf
  refine ⟨by decide, s[2], atB (by omega), ?_⟩
  conv => whnf
  refine ⟨by decide, ?_⟩
  conv => whnf
  refine ⟨rfl, ?_⟩
  conv => whnf
  refine ⟨by decide, s[3], atB (by omega), ?_⟩
  conv => whnf
  refine ⟨rfl, ?_⟩
  conv => whnf
  exact finA ⟨congrArg (fun n : Int => some (Go.Rx.I n)) ((num4_i64 s[0] s[1] s[2] s[3]).trans (congrArg Int.ofNat (num4_of h).symm))⟩
theorem rdbytes_con (q : ByteArray × Bool) (n : Int) : ConG P 62 [rdr q] [.lf (.ptr 0 0), Go.Rx.I n] (Sx (rdB q n).1) [rdr (rdB q n).2] := by
  obtain ⟨s, bad⟩ := q
  cases bad
  · have eb : rdB (s, false) n = if n < 0 ∨ (s.size : Int) < n then (⟨#[]⟩, (s, true)) else (s.extract 0 n.toNat, (s.extract n.toNat s.size, false)) := by simp [rdB]
    rw [eb]
    refine ConG.of T_ok Tryz.func62 rfl (by kernel_rfl) (by kernel_rfl) (aw_of T_ok (by kernel_rfl) ?_)
    conv => whnf
    split <;> rename_i h1 <;> conv => whnf
    · have h1' : n < 0 := of_decide_eq_true h1
      rw [if_pos (Or.inl h1')]
      exact ⟨[], [0], _, _, rfl, rfl, rfl, wk_refl _, rfl⟩
    have h1' : ¬ n < 0 := of_decide_eq_false h1
    split <;> rename_i h2 <;> conv => whnf
    · have h2' : (s.size : Int) < n := of_decide_eq_true h2
      rw [if_pos (Or.inr h2')]
      exact ⟨[], [0], _, _, rfl, rfl, rfl, wk_refl _, rfl⟩
    have h2' : ¬ (s.size : Int) < n := of_decide_eq_false h2
    rw [if_neg (by omega)]
    refine ⟨by decide, by omega, by show n ≤ (s.size : Int); omega, ?_⟩
    conv => whnf
    refine ⟨by omega, by show n ≤ (s.size : Int); omega, Int.le_refl _, ?_⟩
    conv => whnf
    exact ⟨[], [0], _, _, rfl, rfl, rfl, wk_refl _, rfl⟩
  · have eb : rdB (s, true) n = (⟨#[]⟩, (s, true)) := by simp [rdB]
    rw [eb]
    refine ConG.of T_ok Tryz.func62 rfl (by kernel_rfl) (by kernel_rfl) (aw_of T_ok (by kernel_rfl) ?_)
    conv => whnf
    exact ⟨[], [0], _, _, rfl, rfl, rfl, wk_refl _, rfl⟩
theorem sgn_i32 {n : Nat} (h : n < 4294967296) : IntKind.i64.wrap (IntKind.i32.wrap n) = sgn n := by
  have e : ∀ y : Int, IntKind.i32.wrap y = if 2147483648 ≤ y % 4294967296 then y % 4294967296 - 4294967296 else y % 4294967296 := fun y => by
    simp [IntKind.wrap, IntKind.bits, IntKind.signed]
  rw [e, sgn]
  split <;> split <;> first | omega | rw [wrapI (by omega)]; omega
theorem rdB4 {q : ByteArray × Bool} (h : ¬ (rdB q 4).2.2 = true) : 4 ≤ (rdB q 4).1.size ∧ (rdB q 4).1.size ≤ 4 := by
  by_cases c : q.2 = true ∨ (4 : Int) < 0 ∨ (q.1.size : Int) < 4
  · rw [rdB, if_pos c] at h; simp at h
  · rw [rdB, if_neg c]
    show 4 ≤ (q.1.extract 0 4).size ∧ (q.1.extract 0 4).size ≤ 4
    rw [ByteArray.size_extract]
    have : ¬ (q.1.size : Int) < 4 := fun x => c (.inr (.inr x))
    omega
theorem rdnum_con (q : ByteArray × Bool) : ConG P 44 [rdr q] [.lf (.ptr 0 0)] (Go.Rx.I (rdN q).1) [rdr (rdN q).2] := by
  have h4 := rdB4 (q := q)
  have en : rdN q = if (rdB q 4).2.2 then (0, (rdB q 4).2) else (sgn (num4 (rdB q 4).1.data.toList), (rdB q 4).2) := rfl
  have hr := rdbytes_con q 4
  generalize rdB q 4 = x at en h4 hr
  obtain ⟨t, s, bad⟩ := x
  rw [en]
  cases bad
  · refine ConG.of T_ok Tryz.func44 rfl (by kernel_rfl) (by kernel_rfl) (aw_of T_ok (by kernel_rfl) ?_)
    conv => whnf
    refine ⟨[0], _, _, _, _, _, nodupB_ok rfl, rfl, rfl, wk_refl _, hr, ?_⟩
    conv => whnf
    refine callS (sealnum_con t (h4 (by simp)).1) rfl ?_
    conv => whnf
    exact ⟨[], [0], _, _, rfl, rfl, rfl, wk_refl _, congrArg (fun n => some (Go.Rx.I n)) (sgn_i32 (num4_lt t.data.toList))⟩
  · refine ConG.of T_ok Tryz.func44 rfl (by kernel_rfl) (by kernel_rfl) (aw_of T_ok (by kernel_rfl) ?_)
    conv => whnf
    refine ⟨[0], _, _, _, _, _, nodupB_ok rfl, rfl, rfl, wk_refl _, hr, ?_⟩
    conv => whnf
    exact ⟨[], [0], _, _, rfl, rfl, rfl, wk_refl _, rfl⟩
theorem rdtext_con (q : ByteArray × Bool) : ConG P 63 [rdr q] [.lf (.ptr 0 0)] (Sx (rdT q).1) [rdr (rdT q).2] := by
  refine ConG.of T_ok Tryz.func63 rfl (by kernel_rfl) (by kernel_rfl) (aw_of T_ok (by kernel_rfl) ?_)
  conv => whnf
  refine ⟨[0], _, _, _, _, _, nodupB_ok rfl, rfl, rfl, wk_refl _, rdnum_con q, ?_⟩
  conv => whnf
  refine ⟨[0], _, _, _, _, _, nodupB_ok rfl, rfl, rfl, wk_refl _, rdbytes_con (rdN q).2 (rdN q).1, ?_⟩
  conv => whnf
  exact ⟨[], [0], _, _, rfl, rfl, rfl, wk_refl _, rfl⟩
theorem tknum_con (q : ByteArray × Bool) : ConG P 48 [rdr q] [.lf (.ptr 0 0)] (Go.Rx.I (rdN q).1) [rdr (rdN q).2] := by
  obtain ⟨s, bad⟩ := q
  cases bad
  · refine ConG.of T_ok Tryz.func48 rfl (by kernel_rfl) (by kernel_rfl) (aw_of T_ok (by kernel_rfl) ?_)
    conv => whnf
    split <;> rename_i h1 <;> conv => whnf
    · have h1' : (s.size : Int) < 4 := of_decide_eq_true h1
      have e : rdN (s, false) = (0, (s, true)) := by simp [rdN, rdB, h1']
      rw [e]
      exact ⟨[], [0], _, _, rfl, rfl, rfl, wk_refl _, rfl⟩
    have h1' : ¬ (s.size : Int) < 4 := of_decide_eq_false h1
    have e : rdN (s, false) = (sgn (num4 s.data.toList), (s.extract 4 s.size, false)) := by
      have e1 : rdB (s, false) 4 = (s.extract 0 4, (s.extract 4 s.size, false)) := by simp [rdB, h1']
      have e2 : num4 (s.extract 0 4).data.toList = num4 s.data.toList := by rw [ext_list, List.drop_zero]; exact num4_take _
      rw [rdN, e1]; show (sgn (num4 (s.extract 0 4).data.toList), _) = _; rw [e2]
    rw [e]
    refine callS (read9_con s (by omega)) rfl ?_
    conv => whnf
    refine ⟨by decide, by show (4 : Int) ≤ (s.size : Int); omega, Int.le_refl _, ?_⟩
    conv => whnf
    have hn := num4_lt s.data.toList
    split <;> rename_i h2 <;> conv => whnf
    · have h2' : (2147483648 : Int) ≤ (num4 s.data.toList : Nat) := of_decide_eq_true h2
      refine ⟨[], [0], _, _, rfl, rfl, rfl, wk_refl _, congrArg (fun n => some (Go.Rx.I n)) ?_⟩
      rw [sgn, if_pos (by omega)]
      exact wrapI (by omega)
    · have h2' : ¬ (2147483648 : Int) ≤ (num4 s.data.toList : Nat) := of_decide_eq_false h2
      refine ⟨[], [0], _, _, rfl, rfl, rfl, wk_refl _, congrArg (fun n => some (Go.Rx.I n)) ?_⟩
      rw [sgn, if_neg (by omega)]
  · have e : rdN (s, true) = (0, (s, true)) := by simp [rdN, rdB]
    rw [e]
    refine ConG.of T_ok Tryz.func48 rfl (by kernel_rfl) (by kernel_rfl) (aw_of T_ok (by kernel_rfl) ?_)
    conv => whnf
    exact ⟨[], [0], _, _, rfl, rfl, rfl, wk_refl _, rfl⟩
theorem tktext_con (q : ByteArray × Bool) : ConG P 49 [rdr q] [.lf (.ptr 0 0)] (Sx (rdT q).1) [rdr (rdT q).2] := by
  have er : rdT q = rdB (rdN q).2 (rdN q).1 := rfl
  have hr := tknum_con q
  generalize rdN q = x at er hr
  obtain ⟨n, s, bad⟩ := x
  rw [er]
  cases bad
  · have eb : rdB (s, false) n = if n < 0 ∨ (s.size : Int) < n then (⟨#[]⟩, (s, true)) else (s.extract 0 n.toNat, (s.extract n.toNat s.size, false)) := by simp [rdB]
    rw [eb]
    refine ConG.of T_ok Tryz.func49 rfl (by kernel_rfl) (by kernel_rfl) (aw_of T_ok (by kernel_rfl) ?_)
    conv => whnf
    refine ⟨[0], _, _, _, _, _, nodupB_ok rfl, rfl, rfl, wk_refl _, hr, ?_⟩
    conv => whnf
    split <;> rename_i h1 <;> conv => whnf
    · have h1' : n < 0 := of_decide_eq_true h1
      rw [if_pos (Or.inl h1')]
      exact ⟨[], [0], _, _, rfl, rfl, rfl, wk_refl _, rfl⟩
    have h1' : ¬ n < 0 := of_decide_eq_false h1
    split <;> rename_i h2 <;> conv => whnf
    · have h2' : (s.size : Int) < n := of_decide_eq_true h2
      rw [if_pos (Or.inr h2')]
      exact ⟨[], [0], _, _, rfl, rfl, rfl, wk_refl _, rfl⟩
    have h2' : ¬ (s.size : Int) < n := of_decide_eq_false h2
    rw [if_neg (by omega)]
    refine ⟨by decide, by omega, by show n ≤ (s.size : Int); omega, ?_⟩
    conv => whnf
    refine ⟨by omega, by show n ≤ (s.size : Int); omega, Int.le_refl _, ?_⟩
    conv => whnf
    exact ⟨[], [0], _, _, rfl, rfl, rfl, wk_refl _, rfl⟩
  · have eb : rdB (s, true) n = (⟨#[]⟩, (s, true)) := by simp [rdB]
    rw [eb]
    refine ConG.of T_ok Tryz.func49 rfl (by kernel_rfl) (by kernel_rfl) (aw_of T_ok (by kernel_rfl) ?_)
    conv => whnf
    refine ⟨[0], _, _, _, _, _, nodupB_ok rfl, rfl, rfl, wk_refl _, hr, ?_⟩
    conv => whnf
    exact ⟨[], [0], _, _, rfl, rfl, rfl, wk_refl _, rfl⟩
end Go.Proofs.YtdifjeaplceadaaGreat.Rx

/- A frame taken: the code's and the page's. -/
set_option linter.unusedVariables false
set_option linter.unusedSimpArgs false
namespace Go.Rx
def unf (s : ByteArray) : ByteArray × ByteArray × Bool :=
  if s.size < 8 ∨ 4000 < num4 s.data.toList ∨ s.size < num4 s.data.toList + 8 ∨ num4 (s.extract 4 s.size).data.toList ≠ chk (s.extract 0 4 ++ s.extract 8 (8 + num4 s.data.toList)).data.toList then (⟨#[]⟩, ⟨#[]⟩, false)
  else (s.extract 8 (8 + num4 s.data.toList), s.extract (8 + num4 s.data.toList) s.size, true)
theorem num_be4 (x : Int) : (num4 (be4 x) : Int) = x % 4294967296 := by
  have f1 : x.fdiv 16777216 = x / 16777216 := Int.fdiv_eq_ediv_of_nonneg _ (by decide)
  have f2 : x.fdiv 65536 = x / 65536 := Int.fdiv_eq_ediv_of_nonneg _ (by decide)
  have f3 : x.fdiv 256 = x / 256 := Int.fdiv_eq_ediv_of_nonneg _ (by decide)
  have b1 := byteZ_nat (x / 16777216)
  have b2 := byteZ_nat (x / 65536)
  have b3 := byteZ_nat (x / 256)
  have b4 := byteZ_nat x
  rw [be4, f1, f2, f3]
  show (((((byteZ (x / 16777216)).toNat * 256 + (byteZ (x / 65536)).toNat) * 256 + (byteZ (x / 256)).toNat) * 256 + (byteZ x).toNat : Nat) : Int) = _
  omega
theorem num4_inj {a b c d e f g h : UInt8} (x : num4 [a, b, c, d] = num4 [e, f, g, h]) : [a, b, c, d] = [e, f, g, h] := by
  have x' : ((a.toNat * 256 + b.toNat) * 256 + c.toNat) * 256 + d.toNat = ((e.toNat * 256 + f.toNat) * 256 + g.toNat) * 256 + h.toNat := x
  have := a.toNat_lt; have := b.toNat_lt; have := c.toNat_lt; have := d.toNat_lt
  have := e.toNat_lt; have := f.toNat_lt; have := g.toNat_lt; have := h.toNat_lt
  have e1 : a = e := UInt8.toNat_inj.1 (by omega)
  have e2 : b = f := UInt8.toNat_inj.1 (by omega)
  have e3 : c = g := UInt8.toNat_inj.1 (by omega)
  have e4 : d = h := UInt8.toNat_inj.1 (by omega)
  rw [e1, e2, e3, e4]
theorem be4_num (a b c d : UInt8) : be4 (num4 [a, b, c, d] : Nat) = [a, b, c, d] := by
  refine num4_inj ?_
  have h := num_be4 (num4 [a, b, c, d] : Nat)
  have := num4_lt [a, b, c, d]
  have e : num4 (be4 (num4 [a, b, c, d] : Nat)) = num4 [a, b, c, d] := by omega
  exact e
theorem num4_cons (a b c d : UInt8) (t : List UInt8) : num4 (a :: b :: c :: d :: t) = num4 [a, b, c, d] := rfl
theorem be4_nat {x : Nat} {e f g h : UInt8} (hx : x < 4294967296) : be4 x = [e, f, g, h] ↔ num4 [e, f, g, h] = x := by
  constructor
  · intro y
    rw [← y]
    have := num_be4 x
    omega
  · intro y
    rw [← y]
    exact be4_num e f g h
theorem list8 {s : ByteArray} (h : 8 ≤ s.size) : ∃ a b c d e f g i t, s.data.toList = a :: b :: c :: d :: e :: f :: g :: i :: t := by
  refine ⟨s[0], s[1], s[2], s[3], s[4], s[5], s[6], s[7], s.data.toList.drop 8, ?_⟩
  rw [← dropB s 7 (by omega), ← dropB s 6 (by omega), ← dropB s 5 (by omega), ← dropB s 4 (by omega), ← dropB s 3 (by omega), ← dropB s 2 (by omega), ← dropB s 1 (by omega), ← dropB s 0 (by omega), List.drop_zero]
theorem bytesOf_eq {s : ByteArray} {l : List UInt8} : bytesOf l = s ↔ l = s.data.toList := by
  constructor
  · intro h; rw [← h]; rfl
  · intro h; rw [h]; rfl
theorem frame_iff {s : ByteArray} (h8 : 8 ≤ s.size) {n : Nat} (hn : num4 s.data.toList = n) (h4 : n ≤ 4000) (hs : n + 8 ≤ s.size) :
    frame (s.extract 8 (8 + n)) = s.extract 0 (8 + n) ↔ num4 (s.extract 4 s.size).data.toList = chk (s.extract 0 4 ++ s.extract 8 (8 + n)).data.toList := by
  have x8 : (s.extract 8 (8 + n)).size = n := by rw [ByteArray.size_extract]; omega
  rw [frame, if_neg (by rw [x8]; omega), bytesOf_eq, frmL, ext_list, ext_list, ext_list, ByteArray.data_append, Array.toList_append, ext_list, ext_list]
  have hL : s.data.toList.length = s.size := rfl
  obtain ⟨a, b, c, d, e, f, g, i, t, hl⟩ := list8 h8
  have ht : t.length + 8 = s.size := by rw [← hL, hl]; rfl
  rw [hl] at hn ⊢
  rw [num4_cons] at hn
  have e1 : 8 + n - 8 = n := by omega
  have e2 : 8 + n - 0 = n + 8 := by omega
  have e3 : s.size - 4 = t.length + 4 := by omega
  rw [e1, e2, e3]
  simp only [List.drop_succ_cons, List.drop_zero, List.take_succ_cons, List.take_zero, Nat.sub_zero, List.cons_append, List.nil_append]
  have e4 : (List.take n t).length = n := by rw [List.length_take]; omega
  have e5 : be4 ((n : Nat) : Int) = [a, b, c, d] := by rw [← hn]; exact be4_num a b c d
  rw [e4, e5, num4_cons, ← be4_nat (by have := chk_lt (a :: b :: c :: d :: List.take n t); omega)]
  simp only [List.cons_append, List.nil_append]
  constructor
  · intro y
    simp only [List.cons.injEq, true_and] at y
    exact List.append_inj_left y rfl
  · intro y
    rw [y]; rfl
theorem bne_of {a b : ByteArray} (h : (a != b) = true) : a ≠ b := by simpa using h
theorem eq_of_bne {a b : ByteArray} (h : (a != b) = false) : a = b := by simpa using h
theorem bne_nat {a b : Nat} (h : ((a : Int) != (b : Int)) = false) : a = b := by
  have : (a : Int) = b := by simpa using h
  omega
abbrev tri (q : ByteArray × ByteArray × Bool) : AV := .tup [.lf (.pv (pS q.1)), .lf (.pv (pS q.2.1)), .lf (.pv (.sc (.bool q.2.2)))]
theorem finT {a b : ByteArray} {n : Bool} {q : ByteArray × ByteArray × Bool} (h : q = (a, b, n)) : ∃ zs, Fa WkA [Sx a, Sx b, Bl n] zs ∧ pack zs = some (tri q) := ⟨_, wk_refl _, by rw [h]; rfl⟩
end Go.Rx
namespace Go.Proofs.YtdifjeaplceadaaGreat.Rx
open Go.Rx Go.Proofs Go.Proofs.YtdifjeaplceadaaGreat.RxB
theorem stake_con (s : ByteArray) (hs : okS s) : Con P 43 [Sx s] (tri (unf s)) [] := by
  simp only [okS] at hs
  refine Con.of T_ok Tryz.func43 rfl (by kernel_rfl) (by kernel_rfl) (aw_of T_ok (by kernel_rfl) ?_)
  conv => whnf
  split <;> rename_i h1 <;> conv => whnf
  · have h1' : s.size < 8 := by have : (s.size : Int) < 8 := of_decide_eq_true h1
                                omega
    exact finT (by rw [unf, if_pos (.inl h1')])
  have h1' : ¬ s.size < 8 := by have : ¬ (s.size : Int) < 8 := of_decide_eq_false h1
                                omega
  have hc := sealnum_con s (by omega)
  have hu : unf s = if 4000 < num4 s.data.toList ∨ s.size < num4 s.data.toList + 8 ∨ num4 (s.extract 4 s.size).data.toList ≠ chk (s.extract 0 4 ++ s.extract 8 (8 + num4 s.data.toList)).data.toList then (⟨#[]⟩, ⟨#[]⟩, false)
      else (s.extract 8 (8 + num4 s.data.toList), s.extract (8 + num4 s.data.toList) s.size, true) := by rw [unf]; simp [h1']
  have hlt := num4_lt s.data.toList
  rw [hu]
  obtain ⟨n, hn⟩ : ∃ n, num4 s.data.toList = n := ⟨_, rfl⟩
  rw [hn] at hc hlt ⊢
  refine callS hc rfl ?_
  conv => whnf
  split <;> rename_i h2 <;> conv => whnf
  · have h2' : 4000 < n := by have : (4000 : Int) < (n : Int) := of_decide_eq_true h2
                              omega
    exact finT (by rw [if_pos (.inl h2')])
  have h2' : ¬ 4000 < n := by have : ¬ (4000 : Int) < (n : Int) := of_decide_eq_false h2
                              omega
  have w1 : IntKind.i64.wrap ((n : Nat) : Int) = (n : Int) := wrapI (by omega)
  have w2 : IntKind.i64.wrap ((s.size : Int) - 8) = (s.size : Int) - 8 := wrapI (by omega)
  split <;> rename_i h3 <;> conv => whnf
  · have h3' : s.size < n + 8 := by have : IntKind.i64.wrap ((s.size : Int) - 8) < IntKind.i64.wrap ((n : Nat) : Int) := of_decide_eq_true h3
                                    omega
    exact finT (by rw [if_pos (.inr (.inl h3'))])
  have h3' : ¬ s.size < n + 8 := by have : ¬ IntKind.i64.wrap ((s.size : Int) - 8) < IntKind.i64.wrap ((n : Nat) : Int) := of_decide_eq_false h3
                                    omega
  have w3 : IntKind.i64.wrap (8 + IntKind.i64.wrap ((n : Nat) : Int)) = ((8 + n : Nat) : Int) := by rw [w1, wrapI (by omega)]; omega
  have w4 : (IntKind.i64.wrap (8 + IntKind.i64.wrap ((n : Nat) : Int))).toNat = 8 + n := by rw [w3]; rfl
  refine AW.draw T_ok rfl (.one 0 (.one 1 (.one 2 (.one 3 (.one 5 (.one 6 (.one 7 (.one 8 (.pre 4 (.one 10 (.one 9 (.one 11 .done)))))))))))) (by kernel_rfl) (by kernel_rfl) ?_
  conv => whnf
  refine ⟨by decide, by rw [w3]; omega, by rw [w3]; omega, ?_⟩
  conv => whnf
  refine ⟨by rw [w3]; omega, by rw [w3]; omega, Int.le_refl _, ?_⟩
  conv => whnf
  refine AW.draw T_ok rfl (.one 0 (.one 3 (.one 5 (.pre 1 (.pre 4 (.one 6 (.one 2 (.one 7 (.one 8 .done))))))))) (by kernel_rfl) (by kernel_rfl) ?_
  conv => whnf
  have x4 : (s.extract 4 s.size).size = s.size - 4 := by rw [ByteArray.size_extract]; omega
  have x04 : (s.extract 0 4).size = 4 := by rw [ByteArray.size_extract]; omega
  have x8 : (s.extract 8 (IntKind.i64.wrap (8 + IntKind.i64.wrap ((n : Nat) : Int))).toNat).size = n := by rw [w4, ByteArray.size_extract]; omega
  refine ⟨by decide, by omega, Int.le_refl _, ?_⟩
  conv => whnf
  refine ⟨by decide, by decide, by omega, ?_⟩
  conv => whnf
  refine ⟨by show (s.extract 0 4).size + (s.extract 8 (IntKind.i64.wrap (8 + IntKind.i64.wrap ((n : Nat) : Int))).toNat).size ≤ _; rw [x04, x8]; omega, ?_⟩
  conv => whnf
  refine callS (sealnum_con (s.extract 4 s.size) (by rw [x4]; omega)) rfl ?_
  conv => whnf
  refine callS (of_con (s.extract 0 4 ++ s.extract 8 (IntKind.i64.wrap (8 + IntKind.i64.wrap ((n : Nat) : Int))).toNat) (by rw [ByteArray.size_append, x04, x8]; omega)) rfl ?_
  conv => whnf
  split <;> rename_i h4 <;> conv => whnf
  · have h4' : num4 (s.extract 4 s.size).data.toList ≠ chk (s.extract 0 4 ++ s.extract 8 (8 + n)).data.toList := by
      rw [← w4]
      intro e
      have : ((num4 (s.extract 4 s.size).data.toList : Int) != (chk (s.extract 0 4 ++ s.extract 8 (IntKind.i64.wrap (8 + IntKind.i64.wrap ((n : Nat) : Int))).toNat).data.toList : Int)) = true := h4
      rw [e] at this
      simp at this
    exact finT (by rw [if_pos (.inr (.inr h4'))])
  · have h4' : num4 (s.extract 4 s.size).data.toList = chk (s.extract 0 4 ++ s.extract 8 (8 + n)).data.toList := by
      rw [← w4]
      exact bne_nat h4
    have h5 : ¬ (4000 < n ∨ s.size < n + 8 ∨ num4 (s.extract 4 s.size).data.toList ≠ chk (s.extract 0 4 ++ s.extract 8 (8 + n)).data.toList) := by
      rintro (h | h | h) <;> first | omega | exact h h4'
    refine finT ?_
    rw [if_neg h5, ← w4]
    rfl
set_option maxHeartbeats 4000000 in
theorem unframe_con (s : ByteArray) (hs : okS s) : Con P 47 [Sx s] (tri (unf s)) [] := by
  simp only [okS] at hs
  refine Con.of T_ok Tryz.func47 rfl (by kernel_rfl) (by kernel_rfl) (aw_of T_ok (by kernel_rfl) ?_)
  conv => whnf
  split <;> rename_i h1 <;> conv => whnf
  · have h1' : s.size < 8 := by have : (s.size : Int) < 8 := of_decide_eq_true h1
                                omega
    exact finT (by rw [unf, if_pos (.inl h1')])
  have h1' : ¬ s.size < 8 := by have : ¬ (s.size : Int) < 8 := of_decide_eq_false h1
                                omega
  have hc := read9_con s (by omega)
  have hu : unf s = if 4000 < num4 s.data.toList ∨ s.size < num4 s.data.toList + 8 ∨ num4 (s.extract 4 s.size).data.toList ≠ chk (s.extract 0 4 ++ s.extract 8 (8 + num4 s.data.toList)).data.toList then (⟨#[]⟩, ⟨#[]⟩, false)
      else (s.extract 8 (8 + num4 s.data.toList), s.extract (8 + num4 s.data.toList) s.size, true) := by rw [unf]; simp [h1']
  have hlt := num4_lt s.data.toList
  have hfi := frame_iff (s := s) (by omega) rfl
  rw [hu]
  obtain ⟨n, hn⟩ : ∃ n, num4 s.data.toList = n := ⟨_, rfl⟩
  rw [hn] at hc hlt hfi ⊢
  refine callS hc rfl ?_
  conv => whnf
  refine AW.draw T_ok rfl (.one 0 (.one 1 (.one 2 (.one 3 (.one 4 (.one 5 (.one 6 (.one 7 (.one 8 (.one 9 (.one 10 (.one 11 (.one 12 (.one 15 (.one 16 (.one 17 (.two 13 (.two 14 (.one 18 (.one 19 (.one 20 .done))) 18 (.one 14 (.one 19 (.one 20 .done)))) 18 (.one 13 (.one 14 (.one 19 (.one 20 .done))))))))))))))))))))) (by kernel_rfl) (by kernel_rfl) ?_
  conv => whnf
  split <;> rename_i h2 <;> conv => whnf
  · have h2' : 4000 < n := by have : (4000 : Int) < (n : Int) := of_decide_eq_true h2
                              omega
    refine ⟨?_, ?_⟩ <;> conv => whnf
    · refine ⟨?_, ?_⟩ <;> conv => whnf
      all_goals exact finT (by rw [if_pos (.inl h2')])
    · exact finT (by rw [if_pos (.inl h2')])
  have h2' : ¬ 4000 < n := by have : ¬ (4000 : Int) < (n : Int) := of_decide_eq_false h2
                              omega
  have w2 : IntKind.i64.wrap ((s.size : Int) - 8) = (s.size : Int) - 8 := wrapI (by omega)
  split <;> rename_i h3 <;> conv => whnf
  · have h3' : s.size < n + 8 := by have : IntKind.i64.wrap ((s.size : Int) - 8) < ((n : Nat) : Int) := of_decide_eq_true h3
                                    omega
    refine ⟨?_, ?_⟩ <;> conv => whnf
    · refine ⟨?_, ?_⟩ <;> conv => whnf
      all_goals exact finT (by rw [if_pos (.inr (.inl h3'))])
    · exact finT (by rw [if_pos (.inr (.inl h3'))])
  have h3' : ¬ s.size < n + 8 := by have : ¬ IntKind.i64.wrap ((s.size : Int) - 8) < ((n : Nat) : Int) := of_decide_eq_false h3
                                    omega
  have w3 : IntKind.i64.wrap (8 + ((n : Nat) : Int)) = ((8 + n : Nat) : Int) := by rw [wrapI (by omega)]; omega
  have w4 : (IntKind.i64.wrap (8 + ((n : Nat) : Int))).toNat = 8 + n := by rw [w3]; rfl
  have hfi := hfi (by omega) (by omega)
  have h5 : ∀ b : ByteArray, (num4 (s.extract 4 s.size).data.toList = chk (s.extract 0 4 ++ s.extract 8 (8 + n)).data.toList ↔ frame (s.extract 8 (IntKind.i64.wrap (8 + ((n : Nat) : Int))).toNat) = s.extract 0 (IntKind.i64.wrap (8 + ((n : Nat) : Int))).toNat) := fun _ => by rw [w4]; exact hfi.symm
  have no4 : frame (s.extract 8 (IntKind.i64.wrap (8 + ((n : Nat) : Int))).toNat) ≠ s.extract 0 (IntKind.i64.wrap (8 + ((n : Nat) : Int))).toNat → num4 (s.extract 4 s.size).data.toList ≠ chk (s.extract 0 4 ++ s.extract 8 (8 + n)).data.toList := fun h e => h ((h5 s).1 e)
  have yes4 : frame (s.extract 8 (IntKind.i64.wrap (8 + ((n : Nat) : Int))).toNat) = s.extract 0 (IntKind.i64.wrap (8 + ((n : Nat) : Int))).toNat → (if 4000 < n ∨ s.size < n + 8 ∨ num4 (s.extract 4 s.size).data.toList ≠ chk (s.extract 0 4 ++ s.extract 8 (8 + n)).data.toList then ((⟨#[]⟩ : ByteArray), (⟨#[]⟩ : ByteArray), false) else (s.extract 8 (8 + n), s.extract (8 + n) s.size, true)) = (s.extract 8 (IntKind.i64.wrap (8 + ((n : Nat) : Int))).toNat, s.extract (IntKind.i64.wrap (8 + ((n : Nat) : Int))).toNat s.size, true) := fun e => by
    rw [if_neg, w4]
    rintro (h | h | h) <;> first | omega | exact h ((h5 s).2 e)
  refine ⟨?_, ?_⟩ <;> conv => whnf
  · refine ⟨by decide, by rw [w3]; omega, by rw [w3]; omega, ?_⟩
    conv => whnf
    refine ⟨?_, ?_⟩ <;> conv => whnf
    · refine callS (frame9_con _) rfl ?_
      conv => whnf
      refine ⟨by decide, by rw [w3]; omega, by rw [w3]; omega, ?_⟩
      conv => whnf
      split <;> rename_i h4 <;> conv => whnf
      · exact finT (by rw [if_pos (.inr (.inr (no4 (bne_of h4))))])
      · refine AW.draw T_ok rfl (.one 0 (.one 1 (.one 2 (.one 4 (.one 5 (.one 6 (.pre 3 (.one 8 (.one 7 (.one 9 (.one 10 .done))))))))))) (by kernel_rfl) (by kernel_rfl) ?_
        conv => whnf
        refine ⟨by decide, by rw [w3]; omega, by rw [w3]; omega, ?_⟩
        conv => whnf
        refine ⟨by rw [w3]; omega, by rw [w3]; omega, Int.le_refl _, ?_⟩
        conv => whnf
        exact finT (yes4 (eq_of_bne h4))
    · refine ⟨by decide, by rw [w3]; omega, by rw [w3]; omega, ?_⟩
      conv => whnf
      refine callS (frame9_con _) rfl ?_
      conv => whnf
      split <;> rename_i h4 <;> conv => whnf
      · exact finT (by rw [if_pos (.inr (.inr (no4 (bne_of h4))))])
      · refine AW.draw T_ok rfl (.one 0 (.one 1 (.one 2 (.one 4 (.one 5 (.one 6 (.pre 3 (.one 8 (.one 7 (.one 9 (.one 10 .done))))))))))) (by kernel_rfl) (by kernel_rfl) ?_
        conv => whnf
        refine ⟨by decide, by rw [w3]; omega, by rw [w3]; omega, ?_⟩
        conv => whnf
        refine ⟨by rw [w3]; omega, by rw [w3]; omega, Int.le_refl _, ?_⟩
        conv => whnf
        exact finT (yes4 (eq_of_bne h4))
  · refine ⟨by decide, by rw [w3]; omega, by rw [w3]; omega, ?_⟩
    conv => whnf
    refine ⟨by decide, by rw [w3]; omega, by rw [w3]; omega, ?_⟩
    conv => whnf
    refine callS (frame9_con _) rfl ?_
    conv => whnf
    split <;> rename_i h4 <;> conv => whnf
    · exact finT (by rw [if_pos (.inr (.inr (no4 (bne_of h4))))])
    · refine AW.draw T_ok rfl (.one 0 (.one 1 (.one 2 (.one 4 (.one 5 (.one 6 (.pre 3 (.one 8 (.one 7 (.one 9 (.one 10 .done))))))))))) (by kernel_rfl) (by kernel_rfl) ?_
      conv => whnf
      refine ⟨by decide, by rw [w3]; omega, by rw [w3]; omega, ?_⟩
      conv => whnf
      refine ⟨by rw [w3]; omega, by rw [w3]; omega, Int.le_refl _, ?_⟩
      conv => whnf
      exact finT (yes4 (eq_of_bne h4))
end Go.Proofs.YtdifjeaplceadaaGreat.Rx

/- A record read: the code's begin. -/
set_option linter.unusedVariables false
set_option linter.unusedSimpArgs false
namespace Go.Rx
abbrev RdS := ByteArray × Bool
def rdStep (q : RdS) : Step × RdS :=
  let a := rdT q; let b := rdN a.2; let c := rdT b.2; let d := rdT c.2; let e := rdT d.2; let f := rdN e.2
  (⟨a.1, b.1, c.1, d.1, e.1, f.1⟩, f.2)
def rdSteps : Nat → RdS → List Step × RdS
  | 0, q => ([], q)
  | k + 1, q => ((rdStep q).1 :: (rdSteps k (rdStep q).2).1, (rdSteps k (rdStep q).2).2)
def begP (q : RdS) : (ByteArray × ByteArray × List Step) × RdS :=
  let a := rdT q; let b := rdT a.2; let m := rdN b.2; let st := rdSteps (min m.1 5).toNat m.2
  ((a.1, b.1, st.1), st.2)
end Go.Rx
namespace Go.Proofs.YtdifjeaplceadaaGreat.Rx
open Go.Rx Go.Proofs Go.Proofs.YtdifjeaplceadaaGreat.RxB
set_option maxHeartbeats 1000000 in
theorem begin_con (q : RdS) (kind id n : Int) :
    ConG P 45 [rdr q, .var [.pv (pI kind), .pv (pI id), .pv (pI n), .pv (pS ⟨#[]⟩), .pv (pS ⟨#[]⟩), .own 2 0], .arr 37 6 []] [.lf (.ptr 0 0), .lf (.ptr 1 0)] (.tup [])
      [rdr (begP q).2, .var [.pv (pI kind), .pv (pI id), .pv (pI n), .pv (pS (begP q).1.1), .pv (pS (begP q).1.2.1), .own 2 (begP q).1.2.2.length], .arr 37 6 ((begP q).1.2.2.map Step.enc)] := by
  have hb : begP q = (((rdT q).1, (rdT (rdT q).2).1, (rdSteps (min (rdN (rdT (rdT q).2).2).1 5).toNat (rdN (rdT (rdT q).2).2).2).1), (rdSteps (min (rdN (rdT (rdT q).2).2).1 5).toNat (rdN (rdT (rdT q).2).2).2).2) := rfl
  rw [hb]
  have c1 := rdtext_con q
  generalize rdT q = x1 at c1 hb ⊢
  have c2 := rdtext_con x1.2
  generalize rdT x1.2 = x2 at c2 hb ⊢
  have c3 := rdnum_con x2.2
  generalize rdN x2.2 = x3 at c3 hb ⊢
  obtain ⟨m, q3⟩ := x3
  simp only at c3 ⊢
  refine ConG.of T_ok Tryz.func45 rfl (by kernel_rfl) (by kernel_rfl) (aw_of T_ok (by kernel_rfl) ?_)
  conv => whnf
  refine ⟨[0], _, _, _, _, _, nodupB_ok rfl, rfl, rfl, wk_refl _, c1, ?_⟩
  conv => whnf
  refine ⟨[0], _, _, _, _, _, nodupB_ok rfl, rfl, rfl, wk_refl _, c2, ?_⟩
  conv => whnf
  refine ⟨[0], _, _, _, _, _, nodupB_ok rfl, rfl, rfl, wk_refl _, c3, ?_⟩
  conv => whnf
  obtain ⟨c, hc⟩ : ∃ c, c = (if (5 : Int) < m then 5 else m) := ⟨_, rfl⟩
  obtain ⟨M, hM⟩ : ∃ M, M = (min m 5).toNat := ⟨_, rfl⟩
  have hcm : M = c.toNat ∧ c ≤ 5 := by rw [hM, hc]; split <;> omega
  rw [← hM] at hb ⊢
  refine AW.loop (fun p : Nat × List Step × RdS => p.1 ≤ M ∧ p.2.1.length = p.1 ∧ (p.2.1 ++ (rdSteps (M - p.1) p.2.2).1, (rdSteps (M - p.1) p.2.2).2) = rdSteps M q3) (fun p => [(0, .lf (.ptr 0 0)), (1, .lf (.ptr 1 0)), (17, Go.Rx.I c), (18, Go.Rx.I p.1)]) (fun p => [rdr p.2.2, .var [.pv (pI kind), .pv (pI id), .pv (pI n), .pv (pS x1.1), .pv (pS x2.1), .own 2 p.2.1.length], .arr 37 6 (p.2.1.map Step.enc)]) (fun p => M - p.1) [] ?_ ?_
  · exact ⟨(0, [], q3), ⟨Nat.zero_le _, rfl, rfl⟩, ⟨rfl, rfl, congrArg Go.Rx.I hc.symm, rfl, trivial⟩, ⟨[], rfl⟩, rfl, rfl⟩
  rintro ⟨k, l, q'⟩ ⟨hk, hl, hinv⟩
  simp only at hk hl hinv
  have wk : IntKind.i64.wrap ((k : Int) + 1) = ((k + 1 : Nat) : Int) := wrapI (by omega)
  have hs : rdStep q' = (⟨(rdT q').1, (rdN (rdT q').2).1, (rdT (rdN (rdT q').2).2).1, (rdT (rdT (rdN (rdT q').2).2).2).1, (rdT (rdT (rdT (rdN (rdT q').2).2).2).2).1, (rdN (rdT (rdT (rdT (rdN (rdT q').2).2).2).2).2).1⟩, (rdN (rdT (rdT (rdT (rdN (rdT q').2).2).2).2).2).2) := rfl
  have d1 := rdtext_con q'
  generalize rdT q' = y1 at d1 hs
  have d2 := rdnum_con y1.2
  generalize rdN y1.2 = y2 at d2 hs
  have d3 := rdtext_con y2.2
  generalize rdT y2.2 = y3 at d3 hs
  have d4 := rdtext_con y3.2
  generalize rdT y3.2 = y4 at d4 hs
  have d5 := rdtext_con y4.2
  generalize rdT y4.2 = y5 at d5 hs
  have d6 := rdnum_con y5.2
  generalize rdN y5.2 = y6 at d6 hs
  refine aw_ofC T_ok 2006 (by kernel_rfl) ?_
  conv => whnf
  split <;> rename_i hlt <;> conv => whnf
  · have hkM : k < M := by have : (k : Int) < c := of_decide_eq_true hlt
                           omega
    have hst : rdSteps (M - k) q' = ((rdStep q').1 :: (rdSteps (M - (k + 1)) (rdStep q').2).1, (rdSteps (M - (k + 1)) (rdStep q').2).2) := by
      rw [show M - k = (M - (k + 1)) + 1 by omega]; rfl
    rw [hst, hs] at hinv
    refine ⟨[0], _, _, _, _, _, nodupB_ok rfl, rfl, rfl, wk_refl _, d1, ?_⟩
    conv => whnf
    refine ⟨[0], _, _, _, _, _, nodupB_ok rfl, rfl, rfl, wk_refl _, d2, ?_⟩
    conv => whnf
    refine AW.meet (fun _ : Unit => True) (fun _ => [(0, .lf (.ptr 0 0)), (1, .lf (.ptr 1 0)), (17, Go.Rx.I c), (18, Go.Rx.I k), (4, .lf (.ptr 3 0))]) (fun _ => [rdr y2.2, .var [.pv (pI kind), .pv (pI id), .pv (pI n), .pv (pS x1.1), .pv (pS x2.1), .own 2 l.length], .arr 37 6 (l.map Step.enc), stepBlk ⟨y1.1, y2.1, ⟨#[]⟩, ⟨#[]⟩, ⟨#[]⟩, 0⟩]) [] ⟨(), trivial, ⟨rfl, rfl, rfl, rfl, rfl, trivial⟩, ⟨[], rfl⟩, rfl, rfl⟩ ?_
    rintro _ _
    refine aw_of T_ok (by kernel_rfl) ?_
    conv => whnf
    refine ⟨[0], _, _, _, _, _, nodupB_ok rfl, rfl, rfl, wk_refl _, d3, ?_⟩
    conv => whnf
    refine ⟨[0], _, _, _, _, _, nodupB_ok rfl, rfl, rfl, wk_refl _, d4, ?_⟩
    conv => whnf
    refine ⟨[0], _, _, _, _, _, nodupB_ok rfl, rfl, rfl, wk_refl _, d5, ?_⟩
    conv => whnf
    refine ⟨[0], _, _, _, _, _, nodupB_ok rfl, rfl, rfl, wk_refl _, d6, ?_⟩
    conv => whnf
    refine AW.meet (fun _ : Unit => True) (fun _ => [(0, .lf (.ptr 0 0)), (1, .lf (.ptr 1 0)), (17, Go.Rx.I c), (18, Go.Rx.I k), (4, .lf (.ptr 3 0))]) (fun _ => [rdr y6.2, .var [.pv (pI kind), .pv (pI id), .pv (pI n), .pv (pS x1.1), .pv (pS x2.1), .own 2 l.length], .arr 37 6 (l.map Step.enc), stepBlk ⟨y1.1, y2.1, y3.1, y4.1, y5.1, y6.1⟩]) [] ⟨(), trivial, ⟨rfl, rfl, rfl, rfl, rfl, trivial⟩, ⟨[], rfl⟩, rfl, rfl⟩ ?_
    rintro _ _
    refine AW.draw T_ok rfl (.one 1 (.one 2 (.one 3 (.one 4 (.one 5 (.pre 0 (.one 6 (.one 7 (.one 8 (.one 9 (.one 10 .done))))))))))) (by kernel_rfl) (by kernel_rfl) ?_
    conv => whnf
    refine ⟨rfl, _, .inl rfl, ?_⟩
    conv => whnf
    refine ⟨by rw [List.length_map], by show (l.length + 1) * 80 ≤ _; omega, ?_⟩
    conv => whnf
    have hM5 : M ≤ 5 := by omega
    refine ⟨(k + 1, l ++ [⟨y1.1, y2.1, y3.1, y4.1, y5.1, y6.1⟩], y6.2), ⟨⟨hkM, by rw [List.length_append, hl]; rfl, ?_⟩, by show M - (k + 1) < M - k; omega⟩, ⟨rfl, rfl, rfl, congrArg Go.Rx.I wk, trivial⟩, ⟨[?b1, ?b2], ?e⟩, rfl, rfl⟩
    case e =>
      show _ = [rdr y6.2, .var [.pv (pI kind), .pv (pI id), .pv (pI n), .pv (pS x1.1), .pv (pS x2.1), .own 2 (l ++ [(⟨y1.1, y2.1, y3.1, y4.1, y5.1, y6.1⟩ : Step)]).length], .arr 37 6 ((l ++ [(⟨y1.1, y2.1, y3.1, y4.1, y5.1, y6.1⟩ : Step)]).map Step.enc)] ++ [_, _]
      rw [List.length_append, List.map_append]
      rfl
    case h_1 =>
      rw [← hinv]
      simp only [List.append_assoc, List.cons_append, List.nil_append]
  · have hkM : k = M := by have : ¬ (k : Int) < c := of_decide_eq_false hlt
                           omega
    have h0 : (l, q') = rdSteps M q3 := by rw [← hinv, hkM, Nat.sub_self]; simp [rdSteps]
    refine ⟨[], [0, 1, 2], [], [], rfl, ?_, rfl, wk_refl _, rfl⟩
    simp only
    rw [← h0]
    rfl
end Go.Proofs.YtdifjeaplceadaaGreat.Rx

/- A record taken: the code's. -/
set_option linter.unusedVariables false
set_option linter.unusedSimpArgs false
namespace Go.Rx
def zeroR : Rec := ⟨0, 0, 0, ⟨#[]⟩, ⟨#[]⟩, []⟩
abbrev HeadS := (Int × Int × Int) × RdS
def headP (t : ByteArray) : HeadS :=
  let a := rdN (t, false); let b := rdN a.2; let c := rdN b.2; let d := rdN c.2
  ((a.1, b.1, c.1), d.2)
def bodyP (h : HeadS) : Rec × RdS :=
  if h.1.1 = 1 then (⟨h.1.1, h.1.2.1, h.1.2.2, (begP h.2).1.1, (begP h.2).1.2.1, (begP h.2).1.2.2⟩, (begP h.2).2) else (⟨h.1.1, h.1.2.1, h.1.2.2, ⟨#[]⟩, ⟨#[]⟩, []⟩, h.2)
/-- What is read is taken where it is a record and no other bytes stand for it. -/
def goodP (t : ByteArray) (x : Rec × RdS) : Bool := !x.2.2 && recB x.1 && (plainS x.1 == t)
def takeR (s : ByteArray) : Rec × ByteArray × Int :=
  if (unf s).2.2 = true then (if goodP (unf s).1 (bodyP (headP (unf s).1)) = true then ((bodyP (headP (unf s).1)).1, (unf s).2.1, 0) else (zeroR, ⟨#[]⟩, 10)) else (zeroR, ⟨#[]⟩, 10)
abbrev recOA (r : Rec) : List Lf := [.pv (pI r.kind), .pv (pI r.id), .pv (pI r.n), .pv (pS r.key), .pv (pS r.body), .own 0 r.steps.length]
abbrev takeO (p : Rec × ByteArray × Int) : AV := .tup [.agg (recOA p.1), .lf (.pv (pS p.2.1)), .lf (.pv (pI p.2.2))]
theorem rdB_le (q : RdS) (n : Int) : (rdB q n).1.size ≤ q.1.size ∧ (rdB q n).2.1.size ≤ q.1.size := by
  unfold rdB
  split
  · exact ⟨Nat.zero_le _, Nat.le_refl _⟩
  · exact ⟨by show (q.1.extract 0 n.toNat).size ≤ _; rw [ByteArray.size_extract]; omega, by show (q.1.extract n.toNat q.1.size).size ≤ _; rw [ByteArray.size_extract]; omega⟩
theorem rdN_le (q : RdS) : (rdN q).2.1.size ≤ q.1.size := by
  have := (rdB_le q 4).2
  unfold rdN
  split <;> exact this
theorem rdT_le (q : RdS) : (rdT q).1.size ≤ q.1.size ∧ (rdT q).2.1.size ≤ q.1.size := by
  have h1 := rdN_le q
  have h2 := rdB_le (rdN q).2 (rdN q).1
  exact ⟨Nat.le_trans h2.1 h1, Nat.le_trans h2.2 h1⟩
theorem rdStep_le {B : Nat} (hB : B ≤ 140737488351232) (q : RdS) (h : q.1.size ≤ B) : (rdStep q).1.Ok ∧ (rdStep q).2.1.size ≤ B := by
  have a := rdT_le q
  have b := rdN_le (rdT q).2
  have c := rdT_le (rdN (rdT q).2).2
  have d := rdT_le (rdT (rdN (rdT q).2).2).2
  have e := rdT_le (rdT (rdT (rdN (rdT q).2).2).2).2
  have f := rdN_le (rdT (rdT (rdT (rdN (rdT q).2).2).2).2).2
  refine ⟨⟨?_, ?_, ?_, ?_⟩, ?_⟩
  · show (rdT q).1.size ≤ _; omega
  · show (rdT (rdN (rdT q).2).2).1.size ≤ _; omega
  · show (rdT (rdT (rdN (rdT q).2).2).2).1.size ≤ _; omega
  · show (rdT (rdT (rdT (rdN (rdT q).2).2).2).2).1.size ≤ _; omega
  · show (rdN (rdT (rdT (rdT (rdN (rdT q).2).2).2).2).2).2.1.size ≤ _; omega
theorem rdSteps_le {B : Nat} (hB : B ≤ 140737488351232) : ∀ (k : Nat) (q : RdS), q.1.size ≤ B → (rdSteps k q).1.length = k ∧ (∀ x ∈ (rdSteps k q).1, x.Ok) ∧ (rdSteps k q).2.1.size ≤ B
  | 0, q, h => ⟨rfl, fun x hx => (List.not_mem_nil hx).elim, h⟩
  | k + 1, q, h => by
    have h1 := rdStep_le hB q h
    have h2 := rdSteps_le hB k (rdStep q).2 h1.2
    refine ⟨by show (rdSteps k (rdStep q).2).1.length + 1 = k + 1; rw [h2.1], fun x hx => ?_, h2.2.2⟩
    rcases List.mem_cons.1 hx with rfl | hx
    · exact h1.1
    · exact h2.2.1 x hx
theorem body_ok {t : ByteArray} (ht : okS t) : (bodyP (headP t)).1.Ok ∧ (bodyP (headP t)).1.steps.length ≤ 5 := by
  simp only [okS] at ht
  have a := rdN_le (t, false)
  have b := rdN_le (rdN (t, false)).2
  have c := rdN_le (rdN (rdN (t, false)).2).2
  have d := rdN_le (rdN (rdN (rdN (t, false)).2).2).2
  have hq : (headP t).2.1.size ≤ t.size := by
    show (rdN (rdN (rdN (rdN (t, false)).2).2).2).2.1.size ≤ _
    have : (t, false).1.size = t.size := rfl
    omega
  generalize headP t = h at hq
  unfold bodyP
  split
  · have e := rdT_le h.2
    have f := rdT_le (rdT h.2).2
    have g := rdN_le (rdT (rdT h.2).2).2
    have i := rdSteps_le ht (min (rdN (rdT (rdT h.2).2).2).1 5).toNat (rdN (rdT (rdT h.2).2).2).2 (by omega)
    refine ⟨⟨?_, ?_, ⟨?_, i.2.1⟩⟩, ?_⟩
    · show (rdT h.2).1.size ≤ _; omega
    · show (rdT (rdT h.2).2).1.size ≤ _; omega
    · show (rdSteps (min (rdN (rdT (rdT h.2).2).2).1 5).toNat (rdN (rdT (rdT h.2).2).2).2).1.length * 80 ≤ _
      rw [i.1]; omega
    · show (rdSteps (min (rdN (rdT (rdT h.2).2).2).1 5).toNat (rdN (rdT (rdT h.2).2).2).2).1.length ≤ _
      rw [i.1]; omega
  · exact ⟨⟨Nat.zero_le _, Nat.zero_le _, ⟨Nat.zero_le _, fun x hx => by cases hx⟩⟩, Nat.zero_le _⟩
theorem unf_ok {s : ByteArray} (h : okS s) : okS (unf s).1 := by
  simp only [okS] at h ⊢
  unfold unf
  split
  · exact Nat.zero_le _
  · show (s.extract 8 _).size ≤ _
    rw [ByteArray.size_extract]; omega
end Go.Rx
namespace Go.Proofs.YtdifjeaplceadaaGreat.Rx
open Go.Rx Go.Proofs Go.Proofs.YtdifjeaplceadaaGreat.RxB
set_option maxHeartbeats 4000000 in
theorem take_con (s : ByteArray) (hs : okS s) : Con P 27 [Sx s] (takeO (takeR s)) [.arr 37 6 ((takeR s).1.steps.map Step.enc)] := by
  have hu := stake_con s hs
  have ht : takeR s = if (unf s).2.2 = true then (if goodP (unf s).1 (bodyP (headP (unf s).1)) = true then ((bodyP (headP (unf s).1)).1, (unf s).2.1, 0) else (zeroR, ⟨#[]⟩, 10)) else (zeroR, ⟨#[]⟩, 10) := rfl
  rw [ht]
  have hto := unf_ok hs
  generalize unf s = u at hu hto
  obtain ⟨t, rest, ok⟩ := u
  cases ok
  · rw [if_neg (by simp)]
    refine ConG.con (ConG.of T_ok Tryz.func27 rfl (by kernel_rfl) (by kernel_rfl) (aw_of T_ok (by kernel_rfl) ?_)) rfl
    conv => whnf
    refine callS hu rfl ?_
    conv => whnf
    exact ⟨[.cell 0 5 37 6], rfl, [1], [.agg (recOA zeroR), Sx ⟨#[]⟩, Go.Rx.I 10], [.agg (recOA zeroR), Sx ⟨#[]⟩, Go.Rx.I 10], rfl, rfl, rfl, wk_refl _, rfl⟩
  rw [if_pos rfl]
  have hh : headP t = (((rdN (t, false)).1, (rdN (rdN (t, false)).2).1, (rdN (rdN (rdN (t, false)).2).2).1), (rdN (rdN (rdN (rdN (t, false)).2).2).2).2) := rfl
  have c1 := rdnum_con (t, false)
  generalize rdN (t, false) = x1 at c1 hh
  have c2 := rdnum_con x1.2
  generalize rdN x1.2 = x2 at c2 hh
  have c3 := rdnum_con x2.2
  generalize rdN x2.2 = x3 at c3 hh
  have c4 := rdnum_con x3.2
  generalize rdN x3.2 = x4 at c4 hh
  obtain ⟨kind, q1⟩ := x1
  obtain ⟨id, q2⟩ := x2
  obtain ⟨n, q3⟩ := x3
  obtain ⟨zz, q4⟩ := x4
  simp only at c1 c2 c3 c4 hh
  rw [hh]
  simp only
  obtain ⟨res, hres⟩ : ∃ res, (if goodP t (bodyP ((kind, id, n), q4)) = true then ((bodyP ((kind, id, n), q4)).1, rest, (0 : Int)) else (zeroR, ⟨#[]⟩, 10)) = res := ⟨_, rfl⟩
  rw [hres]
  refine ConG.con (ConG.of T_ok Tryz.func27 rfl (by kernel_rfl) (by kernel_rfl) (aw_ofC T_ok 1007 (by kernel_rfl) ?_)) rfl
  conv => whnf
  refine callS hu rfl ?_
  conv => whnf
  refine ⟨[1], _, _, _, _, _, nodupB_ok rfl, rfl, rfl, wk_refl _, c1, ?_⟩
  conv => whnf
  refine ⟨[1], _, _, _, _, _, nodupB_ok rfl, rfl, rfl, wk_refl _, c2, ?_⟩
  conv => whnf
  refine ⟨[1], _, _, _, _, _, nodupB_ok rfl, rfl, rfl, wk_refl _, c3, ?_⟩
  conv => whnf
  refine ⟨[1], _, _, _, _, _, nodupB_ok rfl, rfl, rfl, wk_refl _, c4, ?_⟩
  conv => whnf
  refine AW.meet (fun _ : Unit => True) (fun _ => [(2, .lf (.ptr 0 0)), (3, Sx rest), (4, Go.Rx.I 0), (5, Sx t), (7, .lf (.ptr 1 0))]) (fun _ => [.var [.pv (pI kind), .pv (pI id), .pv (pI n), .pv (pS ⟨#[]⟩), .pv (pS ⟨#[]⟩), .own 2 0], rdr q4, .arr 37 6 []]) [.cell 0 5 37 6] ⟨rfl, (), trivial, ⟨rfl, rfl, rfl, rfl, rfl, trivial⟩, ⟨[], rfl⟩, rfl, rfl⟩ ?_
  rintro _ _
  refine AW.cut (fun x : Rec × RdS => x = bodyP ((kind, id, n), q4)) (fun x => [(2, .lf (.ptr 0 0)), (3, Sx rest), (4, Go.Rx.I 0), (5, Sx t), (7, .lf (.ptr 1 0))]) (fun x => [.var [.pv (pI x.1.kind), .pv (pI x.1.id), .pv (pI x.1.n), .pv (pS x.1.key), .pv (pS x.1.body), .own 2 x.1.steps.length], rdr x.2, .arr 37 6 (x.1.steps.map Step.enc)]) [] ?_ ?_
  · refine aw_of T_ok (by kernel_rfl) ?_
    conv => whnf
    split <;> rename_i h1 <;> conv => whnf
    · have h1' : kind = 1 := eq_of_beq h1
      refine ⟨[1, 0, 2], _, _, _, _, _, nodupB_ok rfl, rfl, rfl, wk_refl _, begin_con q4 kind id n, ?_⟩
      conv => whnf
      exact ⟨_, rfl, ⟨rfl, rfl, rfl, rfl, rfl, trivial⟩, ⟨[], by rw [bodyP, if_pos h1']; rfl⟩, rfl, rfl⟩
    · have h1' : ¬ kind = 1 := by simpa using h1
      exact ⟨_, rfl, ⟨rfl, rfl, rfl, rfl, rfl, trivial⟩, ⟨[], by rw [bodyP, if_neg h1']; rfl⟩, rfl, rfl⟩
  rintro x hx
  have hbo := body_ok hto
  rw [hh, ← hx] at hbo
  rw [← hx] at hres
  obtain ⟨r, q, bad⟩ := x
  have hrl : (r.steps.map Step.enc).length = r.steps.length := List.length_map ..
  have no : ∀ b : Bool, b = false → (if b = true then (r, rest, (0 : Int)) else (zeroR, ⟨#[]⟩, 10)) = (zeroR, ⟨#[]⟩, 10) := fun b h => by rw [h]; rfl
  cases bad
  rotate_left
  · obtain rfl : (zeroR, ⟨#[]⟩, 10) = res := hres
    refine aw_of T_ok (by kernel_rfl) ?_
    conv => whnf
    exact ⟨[.cell 0 5 37 6], rfl, [3], [.agg (recOA zeroR), Sx ⟨#[]⟩, Go.Rx.I 10], [.agg (recOA zeroR), Sx ⟨#[]⟩, Go.Rx.I 10], rfl, rfl, rfl, wk_refl _, rfl⟩
  have hg : goodP t (r, q, false) = (recB r && (plainS r == t)) := rfl
  rw [hg] at hres
  by_cases hr : recB r = true
  rotate_left
  · obtain rfl : (zeroR, ⟨#[]⟩, 10) = res := (no _ (by simp [hr])).symm.trans hres
    refine aw_of T_ok (by kernel_rfl) ?_
    conv => whnf
    refine ⟨hrl, ?_⟩
    have hc := recMay_con r hbo.1
    rw [show recB r = false by simpa using hr] at hc
    refine callS hc rfl ?_
    conv => whnf
    exact ⟨[.cell 0 5 37 6], rfl, [3], [.agg (recOA zeroR), Sx ⟨#[]⟩, Go.Rx.I 10], [.agg (recOA zeroR), Sx ⟨#[]⟩, Go.Rx.I 10], rfl, rfl, rfl, wk_refl _, rfl⟩
  have hc := recMay_con r hbo.1
  rw [hr] at hc
  refine aw_of T_ok (by kernel_rfl) ?_
  conv => whnf
  refine ⟨hrl, ?_⟩
  refine callS hc rfl ?_
  conv => whnf
  refine ⟨hrl, ?_⟩
  refine callS (spell_con r (small_of hr)) rfl ?_
  conv => whnf
  split <;> rename_i h4 <;> conv => whnf
  · have h4' : plainS r ≠ t := bne_of h4
    obtain rfl : (zeroR, ⟨#[]⟩, 10) = res := (no _ (by simp [h4'])).symm.trans hres
    exact ⟨[.cell 0 5 37 6], rfl, [3], [.agg (recOA zeroR), Sx ⟨#[]⟩, Go.Rx.I 10], [.agg (recOA zeroR), Sx ⟨#[]⟩, Go.Rx.I 10], rfl, rfl, rfl, wk_refl _, rfl⟩
  · have h4' : plainS r = t := eq_of_bne h4
    obtain rfl : (r, rest, 0) = res := (if_pos (by rw [hr, h4']; simp)).symm.trans hres
    exact ⟨[], [2], [.agg (recOA r), Sx rest, Go.Rx.I 0], [.agg (recOA r), Sx rest, Go.Rx.I 0], rfl, rfl, rfl, wk_refl _, rfl⟩
end Go.Proofs.YtdifjeaplceadaaGreat.Rx

/- What is read: the page reads the same, and what was written is read as it. -/
set_option linter.unusedVariables false
set_option linter.unusedSimpArgs false
namespace Go.Rx
/-- Bad stays bad. -/
theorem rdB_bad {q : RdS} (h : q.2 = true) (n : Int) : rdB q n = (⟨#[]⟩, (q.1, true)) := by rw [rdB, if_pos (.inl h)]
theorem rdN_bad {q : RdS} (h : q.2 = true) : rdN q = (0, (q.1, true)) := by rw [rdN, rdB_bad h]; rfl
theorem rdT_bad {q : RdS} (h : q.2 = true) : rdT q = (⟨#[]⟩, (q.1, true)) := by rw [rdT, rdN_bad h]; rfl
theorem rdStep_bad {q : RdS} (h : q.2 = true) : (rdStep q).2.2 = true := by
  unfold rdStep
  simp only [rdT_bad h, rdN_bad, rdT_bad]
theorem rdSteps_bad : ∀ (k : Nat) {q : RdS}, q.2 = true → (rdSteps k q).2.2 = true
  | 0, q, h => h
  | k + 1, q, h => rdSteps_bad k (rdStep_bad h)
/-- The page's loop over the steps. -/
def rdWhile : Nat → Int → RdS → List Step × RdS
  | 0, _, q => ([], q)
  | f + 1, n, q => if 0 < n ∧ q.2 = false then ((rdStep q).1 :: (rdWhile f (n - 1) (rdStep q).2).1, (rdWhile f (n - 1) (rdStep q).2).2) else ([], q)
theorem while_bad : ∀ (f : Nat) (n : Int) (q : RdS), n ≤ f → (rdWhile f n q).2.2 = (rdSteps n.toNat q).2.2 ∧ ((rdWhile f n q).2.2 = false → rdWhile f n q = rdSteps n.toNat q)
  | 0, n, q, h => by
    have e : n.toNat = 0 := by omega
    rw [e]; exact ⟨rfl, fun _ => rfl⟩
  | f + 1, n, q, h => by
    by_cases hn : 0 < n
    · by_cases hb : q.2 = false
      · have e : n.toNat = (n - 1).toNat + 1 := by omega
        have ih := while_bad f (n - 1) (rdStep q).2 (by omega)
        have w : rdWhile (f + 1) n q = ((rdStep q).1 :: (rdWhile f (n - 1) (rdStep q).2).1, (rdWhile f (n - 1) (rdStep q).2).2) := by rw [rdWhile, if_pos ⟨hn, hb⟩]
        rw [w, e]
        refine ⟨ih.1, fun hg => ?_⟩
        rw [ih.2 hg]; rfl
      · have hb' : q.2 = true := by simpa using hb
        have w : rdWhile (f + 1) n q = ([], q) := by rw [rdWhile, if_neg (fun h => hb h.2)]
        rw [w]
        exact ⟨hb'.trans (rdSteps_bad _ hb').symm, fun hg => absurd hg hb⟩
    · have e : n.toNat = 0 := by omega
      have w : rdWhile (f + 1) n q = ([], q) := by rw [rdWhile, if_neg (fun h => hn h.1)]
      rw [w, e]
      exact ⟨rfl, fun _ => rfl⟩
theorem while_long : ∀ (f : Nat) (n : Int) (q : RdS), (f : Int) ≤ n → (rdWhile f n q).2.2 = false → (rdWhile f n q).1.length = f
  | 0, n, q, h, _ => rfl
  | f + 1, n, q, h, hb => by
    by_cases hq : q.2 = false
    · have w : rdWhile (f + 1) n q = ((rdStep q).1 :: (rdWhile f (n - 1) (rdStep q).2).1, (rdWhile f (n - 1) (rdStep q).2).2) := by rw [rdWhile, if_pos ⟨by omega, hq⟩]
      rw [w] at hb ⊢
      show _ + 1 = _
      rw [while_long f (n - 1) (rdStep q).2 (by omega) hb]
    · have w : rdWhile (f + 1) n q = ([], q) := by rw [rdWhile, if_neg (fun h => hq h.2)]
      rw [w] at hb
      exact absurd hb hq
def begU (q : RdS) : (ByteArray × ByteArray × List Step) × RdS :=
  let a := rdT q; let b := rdT a.2; let m := rdN b.2; let st := rdWhile 6 m.1 m.2
  ((a.1, b.1, st.1), st.2)
def bodyU (h : HeadS) : Rec × RdS :=
  if h.1.1 = 1 then (⟨h.1.1, h.1.2.1, h.1.2.2, (begU h.2).1.1, (begU h.2).1.2.1, (begU h.2).1.2.2⟩, (begU h.2).2) else (⟨h.1.1, h.1.2.1, h.1.2.2, ⟨#[]⟩, ⟨#[]⟩, []⟩, h.2)
def unpR (s : ByteArray) : Rec × ByteArray × Bool :=
  if (unf s).2.2 = true then (if goodP (unf s).1 (bodyU (headP (unf s).1)) = true then ((bodyU (headP (unf s).1)).1, (unf s).2.1, true) else (zeroR, ⟨#[]⟩, false)) else (zeroR, ⟨#[]⟩, false)
/-- What was read stands ahead of what is left. -/
theorem rdN_eat {q : RdS} (h : (rdN q).2.2 = false) : q.2 = false ∧ q.1.data.toList = be4 (rdN q).1 ++ (rdN q).2.1.data.toList ∧ -2147483648 ≤ (rdN q).1 ∧ (rdN q).1 < 2147483648 := by
  by_cases hq : q.2 = true
  · rw [rdN_bad hq] at h; cases h
  have hq' : q.2 = false := by simpa using hq
  by_cases hs : q.1.size < 4
  · have e : rdB q 4 = (⟨#[]⟩, (q.1, true)) := by rw [rdB, if_pos (.inr (.inr (by omega)))]
    rw [rdN, e] at h; cases h
  · have e : rdB q 4 = (q.1.extract 0 4, (q.1.extract 4 q.1.size, q.2)) := by
      rw [rdB, if_neg]
      · rfl
      · rintro (x | x | x)
        · exact hq x
        · omega
        · omega
    have e2 : rdN q = (sgn (num4 (q.1.extract 0 4).data.toList), (q.1.extract 4 q.1.size, q.2)) := by
      rw [rdN, e]; show (if q.2 = true then _ else _) = _; rw [if_neg hq]
    rw [e2]
    have hlt := num4_lt (q.1.extract 0 4).data.toList
    refine ⟨hq', ?_, ?_, ?_⟩
    · show q.1.data.toList = be4 (sgn (num4 (q.1.extract 0 4).data.toList)) ++ (q.1.extract 4 q.1.size).data.toList
      have hl : q.1.data.toList = q.1[0] :: q.1[1] :: q.1[2] :: q.1[3] :: q.1.data.toList.drop 4 := by
        rw [← dropB q.1 3 (by omega), ← dropB q.1 2 (by omega), ← dropB q.1 1 (by omega), ← dropB q.1 0 (by omega), List.drop_zero]
      have hs2 : (q.1.extract 4 q.1.size).data.toList = q.1.data.toList.drop 4 := by
        rw [ext_list, List.take_of_length_le]
        rw [List.length_drop]; exact Nat.le_refl _
      have hs1 : (q.1.extract 0 4).data.toList = [q.1[0], q.1[1], q.1[2], q.1[3]] := by
        rw [ext_list, List.drop_zero, hl]; rfl
      rw [hs1, hs2]
      have e5 : be4 (sgn (num4 [q.1[0], q.1[1], q.1[2], q.1[3]])) = [q.1[0], q.1[1], q.1[2], q.1[3]] := by
        refine num4_inj ?_
        have h1 := num_be4 (sgn (num4 [q.1[0], q.1[1], q.1[2], q.1[3]]))
        have h2 := num4_lt [q.1[0], q.1[1], q.1[2], q.1[3]]
        have h3 : (num4 (be4 (sgn (num4 [q.1[0], q.1[1], q.1[2], q.1[3]]))) : Int) = num4 [q.1[0], q.1[1], q.1[2], q.1[3]] := by
          rw [h1, sgn]; split <;> omega
        have h4 : num4 (be4 (sgn (num4 [q.1[0], q.1[1], q.1[2], q.1[3]]))) = num4 [q.1[0], q.1[1], q.1[2], q.1[3]] := by omega
        exact h4
      rw [e5]
      exact hl
    · show -2147483648 ≤ sgn _
      rw [sgn]; split <;> omega
    · show sgn _ < 2147483648
      rw [sgn]; split <;> omega
theorem rdT_eat {q : RdS} (h : (rdT q).2.2 = false) : q.2 = false ∧ q.1.data.toList = txtL (rdT q).1 ++ (rdT q).2.1.data.toList := by
  have e : rdT q = rdB (rdN q).2 (rdN q).1 := rfl
  by_cases c : (rdN q).2.2 = true ∨ (rdN q).1 < 0 ∨ ((rdN q).2.1.size : Int) < (rdN q).1
  · rw [e, rdB, if_pos c] at h; cases h
  have e2 : rdT q = ((rdN q).2.1.extract 0 (rdN q).1.toNat, ((rdN q).2.1.extract (rdN q).1.toNat (rdN q).2.1.size, (rdN q).2.2)) := by rw [e, rdB, if_neg c]
  have hn : (rdN q).2.2 = false := by
    cases hx : (rdN q).2.2 with
    | false => rfl
    | true => exact absurd (.inl hx) c
  have h1 := rdN_eat hn
  have c1 : ¬ (rdN q).1 < 0 := fun x => c (.inr (.inl x))
  have c2 : ¬ ((rdN q).2.1.size : Int) < (rdN q).1 := fun x => c (.inr (.inr x))
  refine ⟨h1.1, ?_⟩
  rw [e2, h1.2.1]
  generalize rdN q = x at *
  obtain ⟨v, s, b⟩ := x
  simp only at c1 c2 ⊢
  have sz : (s.extract 0 v.toNat).size = v.toNat := by rw [ByteArray.size_extract]; omega
  rw [txtL, sz, show ((v.toNat : Nat) : Int) = v by omega, List.append_assoc, ext_list, ext_list, List.drop_zero, Nat.sub_zero]
  rw [List.take_of_length_le (l := s.data.toList.drop v.toNat) (by rw [List.length_drop]; exact Nat.le_refl _), List.take_append_drop]
end Go.Rx

/- The page's reading is the code's. -/
set_option linter.unusedVariables false
set_option linter.unusedSimpArgs false
namespace Go.Rx
theorem good_iff {t : ByteArray} {x : Rec × RdS} : goodP t x = true ↔ x.2.2 = false ∧ recB x.1 = true ∧ plainS x.1 = t := by
  unfold goodP
  rw [Bool.and_eq_true, Bool.and_eq_true]
  constructor
  · rintro ⟨⟨h1, h2⟩, h3⟩; exact ⟨by simpa using h1, h2, eq_of_beq h3⟩
  · rintro ⟨h1, h2, h3⟩; exact ⟨⟨by rw [h1]; rfl, h2⟩, by rw [h3]; simp⟩
theorem not_bad {f : RdS → Bool} {q : RdS} (hb : q.2 = true → f q = true) (h : f q = false) : q.2 = false := by
  cases hq : q.2 with
  | false => rfl
  | true => rw [hb hq] at h; cases h
theorem body1 {h : HeadS} (k : h.1.1 = 1) : bodyP h = (⟨h.1.1, h.1.2.1, h.1.2.2, (begP h.2).1.1, (begP h.2).1.2.1, (begP h.2).1.2.2⟩, (begP h.2).2) := by rw [bodyP, if_pos k]
theorem bodyU1 {h : HeadS} (k : h.1.1 = 1) : bodyU h = (⟨h.1.1, h.1.2.1, h.1.2.2, (begU h.2).1.1, (begU h.2).1.2.1, (begU h.2).1.2.2⟩, (begU h.2).2) := by rw [bodyU, if_pos k]
/-- The number of steps that stands there is that of the steps. -/
theorem count_is {t : ByteArray} (k : (headP t).1.1 = 1) (h : goodP t (bodyP (headP t)) = true) : (rdN (rdT (rdT (headP t).2).2).2).1 ≤ 5 := by
  rw [good_iff, body1 k] at h
  obtain ⟨h1, h2, h3⟩ := h
  have hb : (begP (headP t).2).2 = (rdSteps (min (rdN (rdT (rdT (headP t).2).2).2).1 5).toNat (rdN (rdT (rdT (headP t).2).2).2).2).2 := rfl
  have n1 : (rdN (rdT (rdT (headP t).2).2).2).2.2 = false := not_bad (f := fun q => (rdSteps (min (rdN (rdT (rdT (headP t).2).2).2).1 5).toNat q).2.2) (rdSteps_bad _) (by rw [hb] at h1; exact h1)
  have a1 := rdN_eat n1
  have a2 := rdT_eat a1.1
  have a3 := rdT_eat a2.1
  have hh : headP t = (((rdN (t, false)).1, (rdN (rdN (t, false)).2).1, (rdN (rdN (rdN (t, false)).2).2).1), (rdN (rdN (rdN (rdN (t, false)).2).2).2).2) := rfl
  have a4 := rdN_eat (q := (rdN (rdN (rdN (t, false)).2).2).2) a3.1
  have a5 := rdN_eat a4.1
  have a6 := rdN_eat a5.1
  have a7 := rdN_eat a6.1
  have e : plainL ⟨(headP t).1.1, (headP t).1.2.1, (headP t).1.2.2, (begP (headP t).2).1.1, (begP (headP t).2).1.2.1, (begP (headP t).2).1.2.2⟩ = t.data.toList := congrArg (fun z : ByteArray => z.data.toList) h3
  have e1 : t.data.toList = be4 (rdN (t, false)).1 ++ (be4 (rdN (rdN (t, false)).2).1 ++ (be4 (rdN (rdN (rdN (t, false)).2).2).1 ++ (be4 (rdN (rdN (rdN (rdN (t, false)).2).2).2).1 ++ (txtL (rdT (headP t).2).1 ++ (txtL (rdT (rdT (headP t).2).2).1 ++ (be4 (rdN (rdT (rdT (headP t).2).2).2).1 ++ (rdN (rdT (rdT (headP t).2).2).2).2.1.data.toList)))))) := by
    have a4' : (rdN (rdN (rdN (t, false)).2).2).2.1.data.toList = be4 (rdN (rdN (rdN (rdN (t, false)).2).2).2).1 ++ (headP t).2.1.data.toList := a4.2.1
    rw [← a1.2.1, ← a2.2, ← a3.2, ← a4', ← a5.2.1, ← a6.2.1]
    exact a7.2.1
  have e2 : plainL ⟨(headP t).1.1, (headP t).1.2.1, (headP t).1.2.2, (begP (headP t).2).1.1, (begP (headP t).2).1.2.1, (begP (headP t).2).1.2.2⟩ = be4 (rdN (t, false)).1 ++ (be4 (rdN (rdN (t, false)).2).1 ++ (be4 (rdN (rdN (rdN (t, false)).2).2).1 ++ (be4 0 ++ (txtL (rdT (headP t).2).1 ++ (txtL (rdT (rdT (headP t).2).2).1 ++ (be4 ((begP (headP t).2).1.2.2.length : Int) ++ (begP (headP t).2).1.2.2.flatMap stepL1)))))) := by
    rw [plainL, if_pos k, headL, moreL]
    simp only [numsL, List.flatMap_cons, List.flatMap_nil, List.append_nil, List.append_assoc]
    rfl
  rw [e1, e2] at e
  have x1 := List.append_inj_right e rfl
  have x2 := List.append_inj_right x1 rfl
  have x3 := List.append_inj_right x2 rfl
  have x4 := List.append_inj_right x3 rfl
  have x5 := List.append_cancel_left x4
  have x6 := List.append_cancel_left x5
  have x7 := List.append_inj_left x6 rfl
  have y1 := num_be4 ((begP (headP t).2).1.2.2.length : Int)
  have y2 := num_be4 (rdN (rdT (rdT (headP t).2).2).2).1
  rw [x7, y2] at y1
  have l5 : (begP (headP t).2).1.2.2.length ≤ 5 := (small_of h2).len
  have r1 := a1.2.2.1
  have r2 := a1.2.2.2
  omega
theorem good_long {t : ByteArray} (k : (headP t).1.1 = 1) (h : goodP t (bodyU (headP t)) = true) : (rdN (rdT (rdT (headP t).2).2).2).1 ≤ 5 := by
  rw [good_iff, bodyU1 k] at h
  obtain ⟨h1, h2, h3⟩ := h
  have l5 : (begU (headP t).2).1.2.2.length ≤ 5 := (small_of h2).len
  rcases (show 5 < (rdN (rdT (rdT (headP t).2).2).2).1 ∨ (rdN (rdT (rdT (headP t).2).2).2).1 ≤ 5 by omega) with c | c
  · have := while_long 6 (rdN (rdT (rdT (headP t).2).2).2).1 (rdN (rdT (rdT (headP t).2).2).2).2 (by omega) h1
    have l6 : (begU (headP t).2).1.2.2.length = 6 := this
    omega
  · exact c
theorem good_same (t : ByteArray) : goodP t (bodyU (headP t)) = goodP t (bodyP (headP t)) ∧ (goodP t (bodyP (headP t)) = true → bodyU (headP t) = bodyP (headP t)) := by
  by_cases k : (headP t).1.1 = 1
  · have main : (rdN (rdT (rdT (headP t).2).2).2).1 ≤ 5 → (bodyU (headP t)).2.2 = (bodyP (headP t)).2.2 ∧ ((bodyU (headP t)).2.2 = false → bodyU (headP t) = bodyP (headP t)) := fun c => by
      have hw := while_bad 6 (rdN (rdT (rdT (headP t).2).2).2).1 (rdN (rdT (rdT (headP t).2).2).2).2 (by omega)
      have hm : min (rdN (rdT (rdT (headP t).2).2).2).1 5 = (rdN (rdT (rdT (headP t).2).2).2).1 := by omega
      rw [body1 k, bodyU1 k]
      have ep : begP (headP t).2 = (((rdT (headP t).2).1, (rdT (rdT (headP t).2).2).1, (rdSteps (rdN (rdT (rdT (headP t).2).2).2).1.toNat (rdN (rdT (rdT (headP t).2).2).2).2).1), (rdSteps (rdN (rdT (rdT (headP t).2).2).2).1.toNat (rdN (rdT (rdT (headP t).2).2).2).2).2) := by
        show (((rdT (headP t).2).1, (rdT (rdT (headP t).2).2).1, (rdSteps (min (rdN (rdT (rdT (headP t).2).2).2).1 5).toNat (rdN (rdT (rdT (headP t).2).2).2).2).1), (rdSteps (min (rdN (rdT (rdT (headP t).2).2).2).1 5).toNat (rdN (rdT (rdT (headP t).2).2).2).2).2) = _
        rw [hm]
      have eu : begU (headP t).2 = (((rdT (headP t).2).1, (rdT (rdT (headP t).2).2).1, (rdWhile 6 (rdN (rdT (rdT (headP t).2).2).2).1 (rdN (rdT (rdT (headP t).2).2).2).2).1), (rdWhile 6 (rdN (rdT (rdT (headP t).2).2).2).1 (rdN (rdT (rdT (headP t).2).2).2).2).2) := rfl
      rw [ep, eu]
      refine ⟨hw.1, fun hg => ?_⟩
      rw [hw.2 hg]
    have fwd : goodP t (bodyP (headP t)) = true → bodyU (headP t) = bodyP (headP t) := fun h => by
      have m := main (count_is k h)
      exact m.2 (m.1.trans (good_iff.1 h).1)
    have bwd : goodP t (bodyU (headP t)) = true → bodyU (headP t) = bodyP (headP t) := fun h => by
      have m := main (good_long k h)
      exact m.2 (good_iff.1 h).1
    refine ⟨?_, fwd⟩
    cases h1 : goodP t (bodyP (headP t)) with
    | true => rw [fwd h1]; exact h1
    | false =>
      cases h2 : goodP t (bodyU (headP t)) with
      | false => rfl
      | true => rw [bwd h2, h1] at h2; cases h2
  · have e : bodyU (headP t) = bodyP (headP t) := by rw [bodyU, bodyP, if_neg k, if_neg k]
    rw [e]; exact ⟨rfl, fun _ => rfl⟩
/-- Both take the same. -/
theorem unp_take (s : ByteArray) : (unpR s).1 = (takeR s).1 ∧ (unpR s).2.1 = (takeR s).2.1 ∧ (takeR s).2.2 = (if (unpR s).2.2 = true then 0 else 10) := by
  unfold unpR takeR
  have h := good_same (unf s).1
  rw [h.1]
  by_cases c : (unf s).2.2 = true
  · rw [if_pos c, if_pos c]
    by_cases d : goodP (unf s).1 (bodyP (headP (unf s).1)) = true
    · rw [if_pos d, if_pos d, h.2 d]; exact ⟨rfl, rfl, rfl⟩
    · rw [if_neg d, if_neg d]; exact ⟨rfl, rfl, rfl⟩
  · rw [if_neg c, if_neg c]; exact ⟨rfl, rfl, rfl⟩
end Go.Rx

/- What was written is read as it. -/
set_option linter.unusedVariables false
set_option linter.unusedSimpArgs false
namespace Go.Rx
abbrev i32B (v : Int) : Prop := -2147483648 ≤ v ∧ v < 2147483648
theorem ext_bytes (l : List UInt8) (i j : Nat) : (bytesOf l).extract i j = bytesOf ((l.drop i).take (j - i)) := by
  symm
  rw [bytesOf_eq, ext_list]
  rfl
theorem rdB_put (a l : List UInt8) : rdB (bytesOf (a ++ l), false) a.length = (bytesOf a, (bytesOf l, false)) := by
  rw [rdB, if_neg]
  · show ((bytesOf (a ++ l)).extract 0 ((a.length : Int)).toNat, ((bytesOf (a ++ l)).extract ((a.length : Int)).toNat (bytesOf (a ++ l)).size, false)) = _
    have e : ((a.length : Int)).toNat = a.length := by omega
    have e2 : (bytesOf (a ++ l)).size = a.length + l.length := by rw [bytesOf_size, List.length_append]
    rw [e, e2, ext_bytes, ext_bytes, List.drop_zero, Nat.sub_zero, List.take_left', List.drop_left', List.take_of_length_le]
    · omega
    · rfl
    · rfl
  · rintro (h | h | h)
    · cases h
    · omega
    · have : ((bytesOf (a ++ l)).size : Int) < a.length := h
      rw [bytesOf_size, List.length_append] at this; omega
theorem rdN_put {v : Int} (hv : i32B v) (l : List UInt8) : rdN (bytesOf (be4 v ++ l), false) = (v, (bytesOf l, false)) := by
  have e : rdB (bytesOf (be4 v ++ l), false) 4 = (bytesOf (be4 v), (bytesOf l, false)) := rdB_put (be4 v) l
  have h1 := num_be4 v
  rw [rdN, e]
  show (sgn (num4 (be4 v)), _) = _
  have : sgn (num4 (be4 v)) = v := by
    obtain ⟨hv1, hv2⟩ := hv
    rw [sgn]; split <;> omega
  rw [this]
theorem rdT_put {s : ByteArray} (hs : s.size < 2147483648) (l : List UInt8) : rdT (bytesOf (txtL s ++ l), false) = (s, (bytesOf l, false)) := by
  have e : rdN (bytesOf (txtL s ++ l), false) = ((s.size : Int), (bytesOf (s.data.toList ++ l), false)) := by
    rw [txtL, List.append_assoc]; exact rdN_put (by constructor <;> omega) _
  rw [rdT, e]
  exact rdB_put s.data.toList l
structure StepR (x : Step) : Prop where
  sv : i32B x.service
  n : i32B x.n
  nm : x.nm.size < 2147483648
  op : x.op.size < 2147483648
  un : x.undo.size < 2147483648
  wh : x.who.size < 2147483648
theorem rdStep_put {x : Step} (h : StepR x) (l : List UInt8) : rdStep (bytesOf (stepL1 x ++ l), false) = (x, (bytesOf l, false)) := by
  have e : stepL1 x ++ l = txtL x.nm ++ (be4 x.service ++ (txtL x.op ++ (txtL x.undo ++ (txtL x.who ++ (be4 x.n ++ l))))) := by
    simp only [stepL1, List.append_assoc]
  rw [e]
  unfold rdStep
  simp only [rdT_put h.nm, rdN_put h.sv, rdT_put h.op, rdT_put h.un, rdT_put h.wh, rdN_put h.n]
theorem rdSteps_put : ∀ {s : List Step} (h : ∀ x ∈ s, StepR x) (l : List UInt8), rdSteps s.length (bytesOf (s.flatMap stepL1 ++ l), false) = (s, (bytesOf l, false))
  | [], h, l => rfl
  | x :: s, h, l => by
    have e : (x :: s).flatMap stepL1 ++ l = stepL1 x ++ (s.flatMap stepL1 ++ l) := by rw [List.flatMap_cons, List.append_assoc]
    rw [e]
    show ((rdStep (bytesOf (stepL1 x ++ (s.flatMap stepL1 ++ l)), false)).1 :: (rdSteps s.length (rdStep (bytesOf (stepL1 x ++ (s.flatMap stepL1 ++ l)), false)).2).1, _) = _
    rw [rdStep_put (h x (by simp)), rdSteps_put fun y hy => h y (by simp [hy])]
structure RecR (r : Rec) : Prop where
  kind : i32B r.kind
  id : i32B r.id
  n : i32B r.n
  key : r.key.size < 2147483648
  body : r.body.size < 2147483648
  len : r.steps.length ≤ 5
  st : ∀ x ∈ r.steps, StepR x
  bare : ¬ r.kind = 1 → r.key = ⟨#[]⟩ ∧ r.body = ⟨#[]⟩ ∧ r.steps = []
theorem ops_in {n : Int} {s : ByteArray} (h : (opsS n).any (s == ·) = true) : 1 ≤ n ∧ n ≤ 4 := by
  obtain ⟨y, hy, e⟩ := List.any_eq_true.1 h
  unfold opsS at hy
  repeat' split at hy
  all_goals first | (constructor <;> omega) | exact (List.not_mem_nil hy).elim
theorem rec_range {r : Rec} (h : recB r = true) : RecR r := by
  have sm := small_of h
  unfold recB at h
  rw [Bool.and_eq_true] at h
  obtain ⟨h1, h2⟩ := h
  simp only [Bool.and_eq_true, decide_eq_true_eq] at h1
  by_cases k : r.kind = 1
  · rw [if_pos k] at h2
    unfold begB at h2
    simp only [Bool.and_eq_true, decide_eq_true_eq, beq_iff_eq, stepsB] at h2
    have hb := sm.body
    have hk := sm.key
    refine ⟨by constructor <;> omega, by constructor <;> omega, by have := h2.1; constructor <;> omega, by omega, by omega, sm.len, fun x hx => ?_, fun c => absurd k c⟩
    have z := sm.st x hx
    obtain ⟨j, hj, rfl⟩ := List.mem_iff_getElem.1 hx
    have h3 := List.all_eq_true.1 h2.2.2.2.2.2.1 j (List.mem_range.2 hj)
    rw [okAt_eq hj] at h3
    simp only [Bool.and_eq_true, okStep, pairB, numB, decide_eq_true_eq] at h3
    have a2 := ops_in h3.1.1.1.2.1.1
    have a3 := h3.1.2
    exact ⟨by constructor <;> omega, by constructor <;> omega, by omega, by omega, by omega, by omega⟩
  · rw [if_neg k] at h2
    simp only [Bool.and_eq_true, bareB, beq_iff_eq, decide_eq_true_eq] at h2
    have e := List.eq_nil_of_length_eq_zero h2.1.2
    have h3 := h2.2
    unfold kindB at h3
    have hkn : i32B r.kind ∧ i32B r.n := by
      split at h3
      · rename_i c
        simp only [Bool.and_eq_true, decide_eq_true_eq] at h3
        constructor <;> constructor <;> omega
      · split at h3
        · simp only [beq_iff_eq] at h3
          constructor <;> constructor <;> omega
        · split at h3
          · simp only [Bool.and_eq_true, decide_eq_true_eq] at h3
            constructor <;> constructor <;> omega
          · cases h3
    exact ⟨hkn.1, by constructor <;> omega, hkn.2, by rw [h2.1.1.1]; decide, by rw [h2.1.1.2]; decide, by rw [e]; decide, (fun x hx => by rw [e] at hx; cases hx), fun _ => ⟨h2.1.1.1, h2.1.1.2, e⟩⟩
theorem head_put {r : Rec} (h : RecR r) (l : List UInt8) : headP (bytesOf (headL r ++ l)) = ((r.kind, r.id, r.n), (bytesOf l, false)) := by
  have e : headL r ++ l = be4 r.kind ++ (be4 r.id ++ (be4 r.n ++ (be4 0 ++ l))) := by
    rw [headL]; simp [numsL]
  rw [e]
  unfold headP
  simp only [rdN_put h.kind, rdN_put h.id, rdN_put h.n, rdN_put (v := 0) (by constructor <;> omega)]
theorem body_put {r : Rec} (h : RecR r) : bodyP (headP (plainS r)) = (r, (bytesOf [], false)) := by
  by_cases k : r.kind = 1
  · have e : plainS r = bytesOf (headL r ++ (moreL r ++ r.steps.flatMap stepL1)) := by rw [plainS, plainL, if_pos k, List.append_assoc]
    rw [e, head_put h, body1 k]
    have e2 : moreL r ++ r.steps.flatMap stepL1 = txtL r.key ++ (txtL r.body ++ (be4 r.steps.length ++ (r.steps.flatMap stepL1 ++ []))) := by
      rw [moreL]; simp
    have hl := h.len
    have m : (min (r.steps.length : Int) 5).toNat = r.steps.length := by omega
    have eb : begP (bytesOf (moreL r ++ r.steps.flatMap stepL1), false) = ((r.key, r.body, r.steps), (bytesOf [], false)) := by
      rw [e2]
      unfold begP
      simp only [rdT_put h.key, rdT_put h.body, rdN_put (v := (r.steps.length : Int)) (by constructor <;> omega), m, rdSteps_put h.st]
    rw [eb]
  · obtain ⟨b1, b2, b3⟩ := h.bare k
    have e : plainS r = bytesOf (headL r ++ []) := by rw [plainS, plainL, if_neg k, List.append_nil]
    rw [e, head_put h, bodyP, if_neg k]
    obtain ⟨kind, id, n, key, body, steps⟩ := r
    simp only at b1 b2 b3
    subst b1 b2 b3
    rfl
theorem good_put {r : Rec} (h : recB r = true) : goodP (plainS r) (bodyP (headP (plainS r))) = true := by
  rw [good_iff, body_put (rec_range h)]
  exact ⟨rfl, h, rfl⟩
/-- A frame that was made is taken apart. -/
theorem unf_put {p : ByteArray} (h : p.size ≤ 4000) (b : ByteArray) : unf (frame p ++ b) = (p, b, true) := by
  have e : frame p ++ b = bytesOf (be4 p.size ++ (be4 (chk (be4 p.size ++ p.data.toList)) ++ (p.data.toList ++ b.data.toList))) := by
    rw [frame, if_neg (by omega), frmL]
    have e1 : p.data.toList.length = p.size := rfl
    rw [e1]
    symm
    rw [bytesOf_eq, ByteArray.data_append, Array.toList_append]
    simp [bytesOf]
  have hp : p.data.toList.length = p.size := rfl
  have hb : b.data.toList.length = b.size := rfl
  generalize hc : chk (be4 p.size ++ p.data.toList) = c at e
  have hlt : c < 4294967291 := hc ▸ chk_lt _
  rw [e]
  have sz : (bytesOf (be4 p.size ++ (be4 (c : Int) ++ (p.data.toList ++ b.data.toList)))).size = 8 + p.size + b.size := by
    rw [bytesOf_size]; simp only [List.length_append, be4_len, hp, hb]; omega
  have n1 : num4 (bytesOf (be4 p.size ++ (be4 (c : Int) ++ (p.data.toList ++ b.data.toList)))).data.toList = p.size := by
    show num4 (be4 p.size ++ _) = _
    rw [← num4_take, List.take_left' (be4_len _)]
    have := num_be4 p.size
    omega
  have x8 : (bytesOf (be4 p.size ++ (be4 (c : Int) ++ (p.data.toList ++ b.data.toList)))).extract 8 (8 + p.size) = p := by
    rw [ext_bytes, ← List.append_assoc, List.drop_left' (by rw [List.length_append]; rfl), show 8 + p.size - 8 = p.size by omega, List.take_left' hp]; rfl
  have x9 : (bytesOf (be4 p.size ++ (be4 (c : Int) ++ (p.data.toList ++ b.data.toList)))).extract (8 + p.size) (8 + p.size + b.size) = b := by
    rw [ext_bytes, ← List.append_assoc, ← List.append_assoc, List.drop_left' (by rw [List.length_append, List.length_append]; rfl), List.take_of_length_le (by rw [hb]; omega)]; rfl
  have x04 : (bytesOf (be4 p.size ++ (be4 (c : Int) ++ (p.data.toList ++ b.data.toList)))).extract 0 4 = bytesOf (be4 p.size) := by
    rw [ext_bytes, List.drop_zero, List.take_left' (be4_len _)]
  have x4 : num4 ((bytesOf (be4 p.size ++ (be4 (c : Int) ++ (p.data.toList ++ b.data.toList)))).extract 4 (8 + p.size + b.size)).data.toList = c := by
    rw [ext_bytes, List.drop_left' (be4_len _), bytesOf_data]
    rw [← num4_take, List.take_take, show min 4 (8 + p.size + b.size - 4) = 4 by omega, List.take_left' (be4_len _)]
    have := num_be4 c
    omega
  rw [unf, sz, n1, x8, x9, x04, x4, if_neg]
  rintro (h1 | h1 | h1 | h1)
  · omega
  · omega
  · omega
  · apply h1
    rw [← hc, ByteArray.data_append, Array.toList_append]
    rfl
theorem take_put {r : Rec} (h : recB r = true) (hs : (plainS r).size ≤ 4000) (b : ByteArray) : takeR (frame (plainS r) ++ b) = (r, b, 0) := by
  rw [takeR, unf_put hs b, if_pos rfl, if_pos (good_put h), body_put (rec_range h)]
end Go.Rx

/- The arguments of the records' laws, opened. -/
namespace Go.Proofs.YtdifjeaplceadaaGreat.Rx
open Go.Rx Go.Rx.Lift Go.Proofs

theorem opStr : Opens P 9 (fun s : ByteArray => [pS s]) (fun s => s.size ≤ 140737488351232) := opens_string Tryz.underlying9
theorem opInt : Opens P 3 (fun n : Int => [pI n]) (fun n => (Lit.int .i64 n).wf = true) := opens_int Tryz.underlying3
theorem opBool : Opens P 4 (fun b : Bool => [pB b]) (fun _ => True) := opens_bool Tryz.underlying4
theorem opStep : Opens P 37 Step.enc Step.Ok := by
  have h := opens_struct (total := 6) Tryz.underlying37 (by kernel_rfl) (from_cons 1 rfl rfl (by kernel_rfl) opStr (from_cons 1 rfl rfl (by kernel_rfl) opInt (from_cons 1 rfl rfl (by kernel_rfl) opStr (from_cons 1 rfl rfl (by kernel_rfl) opStr (from_cons 1 rfl rfl (by kernel_rfl) opStr (from_last 1 rfl rfl (by kernel_rfl) rfl opInt))))))
  exact opens_iso (fun q : ByteArray × Int × ByteArray × ByteArray × ByteArray × Int => ⟨q.1, q.2.1, q.2.2.1, q.2.2.2.1, q.2.2.2.2.1, q.2.2.2.2.2⟩) (fun _ => rfl) (fun _ h => ⟨h.1, h.2.2.1, h.2.2.2.1, h.2.2.2.2.1⟩) h
theorem opSteps : Opens P 31 (fun l : List Step => [encSteps l]) StepsOk := by
  have h := opens_slice (sz := 6) (B := 80) Tryz.underlying31 (by kernel_rfl) (by decide) (by kernel_rfl) opStep
  exact opens_iso id (fun _ => rfl) (fun _ h => ⟨h.1, h.2⟩) h
theorem opRec : Opens P 33 Rec.enc Rec.Ok := by
  have h := opens_struct (total := 6) Tryz.underlying33 (by kernel_rfl) (from_cons 1 rfl rfl (by kernel_rfl) opInt (from_cons 1 rfl rfl (by kernel_rfl) opInt (from_cons 1 rfl rfl (by kernel_rfl) opInt (from_cons 1 rfl rfl (by kernel_rfl) opStr (from_cons 1 rfl rfl (by kernel_rfl) opStr (from_last 1 rfl rfl (by kernel_rfl) rfl opSteps))))))
  exact opens_iso (fun q : Int × Int × Int × ByteArray × ByteArray × List Step => ⟨q.1, q.2.1, q.2.2.1, q.2.2.2.1, q.2.2.2.2.1, q.2.2.2.2.2⟩) (fun _ => rfl) (fun _ h => ⟨h.2.2.2.1, h.2.2.2.2.1, h.2.2.2.2.2⟩) h
theorem opAsk2 : Opens P 26 (fun q : List ByteArray × List Int => [encStrs q.1, encInts q.2]) (fun q => q.1.length * 16 ≤ 140737488351232 ∧ ∀ s ∈ q.1, okS s) := by
  have h := opens_struct (total := 2) Tryz.underlying26 (by kernel_rfl) (from_cons 1 rfl rfl (by kernel_rfl) (opens_slice (sz := 1) (B := 16) Tryz.underlying23 (by kernel_rfl) (by decide) (by kernel_rfl) opStr) (from_last 1 rfl rfl (by kernel_rfl) rfl (opens_slice (sz := 1) (B := 8) Tryz.underlying24 (by kernel_rfl) (by decide) (by kernel_rfl) opInt)))
  exact opens_iso id (fun _ => rfl) (fun _ h => h.1) h
theorem opAsk11 : Opens P 28 (fun q : List Rec × List ByteArray × List Int => [encRecs q.1, encStrs q.2.1, encInts q.2.2]) (fun q => (q.1.length * 80 ≤ 140737488351232 ∧ ∀ r ∈ q.1, r.Ok) ∧ q.2.1.length * 16 ≤ 140737488351232 ∧ ∀ s ∈ q.2.1, okS s) := by
  have h := opens_struct (total := 3) Tryz.underlying28 (by kernel_rfl) (from_cons 1 rfl rfl (by kernel_rfl) (opens_slice (sz := 6) (B := 80) Tryz.underlying22 (by kernel_rfl) (by decide) (by kernel_rfl) opRec) (from_last 2 rfl rfl (by kernel_rfl) rfl opAsk2))
  exact opens_iso id (fun _ => rfl) (fun _ h => h) h
end Go.Proofs.YtdifjeaplceadaaGreat.Rx

/- What was written is taken as it: the law's body. -/
set_option linter.unusedVariables false
set_option linter.unusedSimpArgs false
namespace Go.Rx
structure Ask11 (R : List Rec) (S : List ByteArray) : Prop where
  len : R.length * 80 ≤ 140737488351232
  each : ∀ r ∈ R, r.Ok
  strs : S.length * 16 ≤ 140737488351232
  txt : ∀ s ∈ S, okS s
abbrev encAsk11 (R : List Rec) (S : List ByteArray) (N : List Int) : AV := .agg [.pv (encRecs R), .pv (encStrs S), .pv (encInts N)]
abbrev ask11V (R : List Rec) (S : List ByteArray) (N : List Int) : Blk := .var [.pv (encRecs R), .pv (encStrs S), .pv (encInts N)]
def behind : ByteArray := ⟨#[98, 101, 104, 105, 110, 100]⟩
theorem bytes_ok {r : Rec} (h : (bytesR r).2 = 0) : recB r = true ∧ (plainS r).size ≤ 4000 ∧ (bytesR r).1 = frame (plainS r) := by
  unfold bytesR at h ⊢
  by_cases c : recB r = true
  · rw [if_pos c] at h ⊢
    unfold frmR at h ⊢
    by_cases d : 4000 < (plainS r).size
    · rw [if_pos d] at h; cases h
    · rw [if_neg d]; exact ⟨c, by omega, rfl⟩
  · rw [if_neg c] at h; cases h
theorem frame_size {p : ByteArray} (h : p.size ≤ 4000) : (frame p).size = p.size + 8 := by
  rw [frame, if_neg (by omega), bytesOf_size, frmL]
  have : p.data.toList.length = p.size := rfl
  simp only [List.length_append, be4_len, this]; omega
theorem bare_size {r : Rec} (h : ¬ r.kind = 1) : (plainS r).size = 16 := by
  rw [plainS, plainL, if_neg h]; rfl
end Go.Rx
namespace Go.Proofs.YtdifjeaplceadaaGreat.Rx
open Go.Rx Go.Proofs Go.Proofs.YtdifjeaplceadaaGreat.RxB
theorem abortR_ok : (⟨4, 3, 0, ⟨#[]⟩, ⟨#[]⟩, []⟩ : Rec).Ok := ⟨Nat.zero_le _, Nat.zero_le _, ⟨Nat.zero_le _, fun x hx => (List.not_mem_nil hx).elim⟩⟩
theorem abortR_b : recB ⟨4, 3, 0, ⟨#[]⟩, ⟨#[]⟩, []⟩ = true := by decide
set_option maxHeartbeats 1000000 in
theorem wakes11_con : Con P 15 [] (Bl true) [] := by
  obtain ⟨r, hr⟩ : ∃ r : Rec, r = ⟨4, 3, 0, ⟨#[]⟩, ⟨#[]⟩, []⟩ := ⟨_, rfl⟩
  have hok : r.Ok := hr ▸ abortR_ok
  have hb : recB r = true := hr ▸ abortR_b
  have hk : ¬ r.kind = 1 := by rw [hr]; decide
  have hid : r.id = 3 := by rw [hr]
  have sz := bare_size hk
  have e1 : bytesR r = (frame (plainS r), 0) := by rw [bytesR, if_pos hb, frmR, if_neg (by omega)]
  have c1 := bytes_con r hok
  rw [e1] at c1
  have fs := frame_size (p := plainS r) (by omega)
  have c2 := take_con (frame (plainS r) ++ ⟨#[120]⟩) (by show ByteArray.size _ ≤ _; rw [ByteArray.size_append, fs, sz]; decide)
  rw [take_put hb (by omega)] at c2
  generalize frame (plainS r) = b at c1 c2 fs
  refine Con.of T_ok Tryz.func15 rfl (by kernel_rfl) (by kernel_rfl) (aw_of T_ok (by kernel_rfl) ?_)
  conv => whnf
  refine callW c1 (hr ▸ ⟨.inr (.inr ⟨_, _, rfl, rfl, .inl rfl, .inl rfl, .inl rfl, .inl rfl, .inl rfl, .inr ⟨_, _, rfl, rfl, wkPN 6⟩, trivial⟩), trivial⟩) rfl ?_
  conv => whnf
  have hb24 : b.size = 24 := by omega
  refine ⟨by show b.size + 1 ≤ _; omega, ?_⟩
  conv => whnf
  refine ⟨_, _, _, wk_refl _, c2, .inr ?_⟩
  conv => whnf
  refine callS (num_con 0 (by decide)) rfl ?_
  conv => whnf
  refine callS (num_con 0 (by decide)) rfl ?_
  conv => whnf
  split <;> rename_i t1 <;> conv => whnf
  rotate_left
  · have : ((b.size : Int) == 24) = false := t1
    rw [hb24] at this
    simp at this
  split <;> rename_i t2 <;> conv => whnf
  rotate_left
  · have : (r.id == 3) = false := t2
    rw [hid] at this
    simp at this
  exact finB ⟨rfl⟩
set_option maxRecDepth 100000 in
set_option maxHeartbeats 4000000 in
theorem recordBack_con (R : List Rec) (S : List ByteArray) (N : List Int) (h : Ask11 R S) : Con P 12 [encAsk11 R S N] (Bl true) [] := by
  obtain ⟨hv, chv⟩ := heavy11_con R S N h.len h.each h.strs
  have hRm : (R.map Rec.enc).length = R.length := List.length_map ..
  have hlen := h.len
  cases hv
  rotate_left
  · refine Con.of T_ok Tryz.func12 rfl (by kernel_rfl) (by kernel_rfl) (aw_of T_ok (by kernel_rfl) ?_)
    conv => whnf
    refine callS chv rfl ?_
    conv => whnf
    exact finB ⟨rfl⟩
  refine Con.of T_ok Tryz.func12 rfl (by kernel_rfl) (by kernel_rfl) (aw_of T_ok (by kernel_rfl) ?_)
  conv => whnf
  refine callS chv rfl ?_
  conv => whnf
  refine AW.loop (fun k : Nat => k ≤ R.length) (fun k => [(1, .lf (.ptr 0 0)), (3, Go.Rx.I k)]) (fun _ => [ask11V R S N]) (fun k => R.length - k) [] ?_ ?_
  · exact ⟨0, Nat.zero_le _, ⟨rfl, rfl, trivial⟩, ⟨[], rfl⟩, rfl, rfl⟩
  intro k hk
  have wk : IntKind.i64.wrap ((k : Int) + 1) = ((k + 1 : Nat) : Int) := wrapI (by omega)
  by_cases hkR : k < R.length
  rotate_left
  · refine aw_of T_ok (by kernel_rfl) ?_
    conv => whnf
    split <;> rename_i t1 <;> conv => whnf
    · have : (k : Int) < ((R.map Rec.enc).length : Int) := of_decide_eq_true t1
      omega
    · refine callS wakes11_con rfl ?_
      conv => whnf
      exact finB ⟨rfl⟩
  have hrow : (R.map Rec.enc)[k]? = some R[k].enc := by simp [hkR]
  have hr := h.each _ (List.getElem_mem hkR)
  generalize R[k] = r at hrow hr
  have cb := bytes_con r hr
  have hbo := bytes_ok (r := r)
  have cs := rsize_con r hr
  have hsr : sizeR r = (((bytesR r).1.size : Int), (bytesR r).2) := rfl
  rw [hsr] at cs
  have he3 : (bytesR r).2 = 0 ∨ (bytesR r).2 = 1 ∨ (bytesR r).2 = 2 := by
    unfold bytesR frmR; split
    · split
      · exact .inr (.inr rfl)
      · exact .inl rfl
    · exact .inr (.inl rfl)
  have he : -9223372036854775808 ≤ (bytesR r).2 ∧ (bytesR r).2 ≤ 9223372036854775807 := by omega
  generalize bytesR r = x at cb hbo cs he he3
  obtain ⟨b, e⟩ := x
  simp only at cb hbo cs he
  refine aw_of T_ok (by kernel_rfl) ?_
  conv => whnf
  split <;> rename_i t1 <;> conv => whnf
  rotate_left
  · have : ¬ (k : Int) < ((R.map Rec.enc).length : Int) := of_decide_eq_false t1
    omega
  split <;> rename_i t2 <;> conv => whnf
  rotate_left
  · refine callS wakes11_con rfl ?_
    conv => whnf
    exact finB ⟨rfl⟩
  refine ⟨by omega, _, hrow, ?_⟩
  conv => whnf
  refine callS cb rfl ?_
  conv => whnf
  refine callS (num_con e he) rfl ?_
  conv => whnf
  split <;> rename_i t3 <;> conv => whnf
  · exact ⟨k + 1, ⟨hkR, by omega⟩, ⟨rfl, congrArg Go.Rx.I wk, trivial⟩, ⟨[], rfl⟩, rfl, rfl⟩
  have e0 : e = 0 := by
    have : (e != 0) = false := t3
    simpa using this
  subst e0
  obtain ⟨hrb, hps, hbf⟩ := hbo rfl
  have fs := frame_size hps
  rw [← hbf] at fs
  have c2 := take_con (b ++ behind) (by show ByteArray.size _ ≤ _; rw [ByteArray.size_append, fs]; have : behind.size = 6 := rfl; omega)
  have tp := take_put hrb hps behind
  rw [← hbf] at tp
  rw [tp] at c2
  refine ⟨by show b.size + 6 ≤ _; omega, ?_⟩
  conv => whnf
  refine ⟨_, _, _, wk_refl _, c2, .inr ?_⟩
  conv => whnf
  refine ⟨by omega, _, hrow, ?_⟩
  conv => whnf
  refine callS cs rfl ?_
  conv => whnf
  refine AW.draw T_ok rfl (seqPl 0 41) (by kernel_rfl) (by kernel_rfl) ?_
  conv => whnf
  refine callS (num_con 0 (by decide)) rfl ?_
  conv => whnf
  refine callS (num_con 0 (by decide)) rfl ?_
  conv => whnf
  refine ⟨by omega, _, hrow, ?_⟩
  conv => whnf
  refine ⟨List.length_map .., ?_⟩
  have ce := eqRec_con r r hr.steps.len
  rw [decide_eq_true rfl] at ce
  refine callS ce rfl ?_
  conv => whnf
  split <;> rename_i t5 <;> conv => whnf
  · have : ((b.size : Int) != (b.size : Int)) = true := t5
    simp at this
  refine ⟨by omega, _, hrow, ?_⟩
  conv => whnf
  split <;> rename_i t6 <;> conv => whnf
  · have hk1 : ¬ r.kind = 1 := by
      have : (r.kind != 1) = true := t6
      simpa using this
    have bs := bare_size hk1
    split <;> rename_i t7 <;> conv => whnf
    · have : ((b.size : Int) != 24) = true := t7
      rw [fs, bs] at this
      simp at this
    · exact ⟨k + 1, ⟨hkR, by omega⟩, ⟨rfl, congrArg Go.Rx.I wk, trivial⟩, ⟨[_, _], rfl⟩, rfl, rfl⟩
  · exact ⟨k + 1, ⟨hkR, by omega⟩, ⟨rfl, congrArg Go.Rx.I wk, trivial⟩, ⟨[_, _], rfl⟩, rfl, rfl⟩
end Go.Proofs.YtdifjeaplceadaaGreat.Rx

/- A record taken: the page's. -/
set_option linter.unusedVariables false
set_option linter.unusedSimpArgs false
namespace Go.Rx
abbrev unpO (p : Rec × ByteArray × Bool) : AV := .tup [.agg (recOA p.1), .lf (.pv (pS p.2.1)), .lf (.pv (.sc (.bool p.2.2)))]
abbrev zeroV : Blk := .var [.pv (pI 0), .pv (pI 0), .pv (pI 0), .pv (pS ⟨#[]⟩), .pv (pS ⟨#[]⟩), .pv (.sc (.slice none 0 0))]
theorem while_stop {f : Nat} {n : Int} {q : RdS} (h : ¬ 0 < n ∨ q.2 = true) : rdWhile f n q = ([], q) := by
  cases f with
  | zero => rfl
  | succ f =>
    rw [rdWhile, if_neg]
    rintro ⟨h1, h2⟩
    rcases h with h | h
    · exact h h1
    · rw [h] at h2; cases h2
theorem rdN_rng (q : RdS) : -2147483648 ≤ (rdN q).1 ∧ (rdN q).1 < 2147483648 := by
  have hlt := num4_lt (rdB q 4).1.data.toList
  unfold rdN
  split
  · exact ⟨by show (-2147483648 : Int) ≤ 0; decide, by show (0 : Int) < 2147483648; decide⟩
  · show -2147483648 ≤ sgn _ ∧ sgn _ < 2147483648
    rw [sgn]; split <;> omega
theorem rdWhile_le {B : Nat} (hB : B ≤ 140737488351232) : ∀ (k : Nat) (n : Int) (q : RdS), q.1.size ≤ B → (rdWhile k n q).1.length ≤ k ∧ (∀ x ∈ (rdWhile k n q).1, x.Ok)
  | 0, n, q, h => ⟨Nat.le_refl _, fun x hx => (List.not_mem_nil hx).elim⟩
  | k + 1, n, q, h => by
    have h1 := rdStep_le hB q h
    have h2 := rdWhile_le hB k (n - 1) (rdStep q).2 h1.2
    rw [rdWhile]
    split
    · refine ⟨Nat.succ_le_succ h2.1, fun x hx => ?_⟩
      rcases List.mem_cons.1 hx with rfl | hx
      · exact h1.1
      · exact h2.2 x hx
    · exact ⟨Nat.zero_le _, fun x hx => (List.not_mem_nil hx).elim⟩
theorem bodyU_ok {t : ByteArray} (ht : okS t) : (bodyU (headP t)).1.Ok := by
  simp only [okS] at ht
  have a := rdN_le (t, false)
  have b := rdN_le (rdN (t, false)).2
  have c := rdN_le (rdN (rdN (t, false)).2).2
  have d := rdN_le (rdN (rdN (rdN (t, false)).2).2).2
  have hq : (headP t).2.1.size ≤ t.size := by
    show (rdN (rdN (rdN (rdN (t, false)).2).2).2).2.1.size ≤ _
    have : (t, false).1.size = t.size := rfl
    omega
  generalize headP t = h at hq
  unfold bodyU
  split
  · have e := rdT_le h.2
    have f := rdT_le (rdT h.2).2
    have g := rdN_le (rdT (rdT h.2).2).2
    have i := rdWhile_le ht 6 (rdN (rdT (rdT h.2).2).2).1 (rdN (rdT (rdT h.2).2).2).2 (by omega)
    refine ⟨?_, ?_, ⟨?_, i.2⟩⟩
    · show (rdT h.2).1.size ≤ _; omega
    · show (rdT (rdT h.2).2).1.size ≤ _; omega
    · show (rdWhile 6 (rdN (rdT (rdT h.2).2).2).1 (rdN (rdT (rdT h.2).2).2).2).1.length * 80 ≤ _
      omega
  · exact ⟨Nat.zero_le _, Nat.zero_le _, ⟨Nat.zero_le _, fun x hx => (List.not_mem_nil hx).elim⟩⟩
end Go.Rx
namespace Go.Proofs.YtdifjeaplceadaaGreat.Rx
open Go.Rx Go.Proofs Go.Proofs.YtdifjeaplceadaaGreat.RxB
theorem bk_to {K : List Blk → Prop} {b : List Blk} (b' : List Blk) (h : b = b') (k : K b') : K b := h ▸ k
abbrev unpB (kind id n : Int) (key body : ByteArray) (l : List Step) (q : RdS) : List Blk := [zeroV, rdr q, .var [.pv (pI kind), .pv (pI id), .pv (pI n), .pv (pS key), .pv (pS body), .own 3 l.length], .arr 37 6 (l.map Step.enc)]
theorem unpB_eq (kind id n : Int) (key body : ByteArray) (l : List Step) (x : Step) (q : RdS) (z : Blk) :
    [zeroV, rdr q, .var [.pv (pI kind), .pv (pI id), .pv (pI n), .pv (pS key), .pv (pS body), .own 3 (l.length + 1)], .arr 37 6 (l.map Step.enc ++ [x.enc]), z] = unpB kind id n key body (l ++ [x]) q ++ [z] := by
  rw [unpB, List.length_append, List.map_append]; rfl
set_option maxRecDepth 100000 in
set_option maxHeartbeats 8000000 in
theorem unpack_con (s : ByteArray) (hs : okS s) : Con P 28 [Sx s] (unpO (unpR s)) [.arr 37 6 ((unpR s).1.steps.map Step.enc)] := by
  have hu := unframe_con s hs
  have ht : unpR s = if (unf s).2.2 = true then (if goodP (unf s).1 (bodyU (headP (unf s).1)) = true then ((bodyU (headP (unf s).1)).1, (unf s).2.1, true) else (zeroR, ⟨#[]⟩, false)) else (zeroR, ⟨#[]⟩, false) := rfl
  rw [ht]
  have hto := unf_ok hs
  generalize unf s = u at hu hto
  obtain ⟨t, rest, ok⟩ := u
  cases ok
  · rw [if_neg (by simp)]
    refine ConG.con (ConG.of T_ok Tryz.func28 rfl (by kernel_rfl) (by kernel_rfl) (aw_of T_ok (by kernel_rfl) ?_)) rfl
    conv => whnf
    refine callS hu rfl ?_
    conv => whnf
    exact ⟨[.cell 0 5 37 6], rfl, [1], [.agg (recOA zeroR), Sx ⟨#[]⟩, Bl false], [.agg (recOA zeroR), Sx ⟨#[]⟩, Bl false], rfl, rfl, rfl, wk_refl _, rfl⟩
  rw [if_pos rfl]
  have hh : headP t = (((rdN (t, false)).1, (rdN (rdN (t, false)).2).1, (rdN (rdN (rdN (t, false)).2).2).1), (rdN (rdN (rdN (rdN (t, false)).2).2).2).2) := rfl
  have c1 := tknum_con (t, false)
  generalize rdN (t, false) = x1 at c1 hh
  have c2 := tknum_con x1.2
  generalize rdN x1.2 = x2 at c2 hh
  have c3 := tknum_con x2.2
  generalize rdN x2.2 = x3 at c3 hh
  have c4 := tknum_con x3.2
  generalize rdN x3.2 = x4 at c4 hh
  obtain ⟨kind, q1⟩ := x1
  obtain ⟨id, q2⟩ := x2
  obtain ⟨n, q3⟩ := x3
  obtain ⟨zz, q4⟩ := x4
  simp only at c1 c2 c3 c4 hh
  have hbo := bodyU_ok hto
  rw [hh] at hbo ⊢
  simp only
  obtain ⟨res, hres⟩ : ∃ res, (if goodP t (bodyU ((kind, id, n), q4)) = true then ((bodyU ((kind, id, n), q4)).1, rest, true) else (zeroR, ⟨#[]⟩, false)) = res := ⟨_, rfl⟩
  rw [hres]
  refine ConG.con (ConG.of T_ok Tryz.func28 rfl (by kernel_rfl) (by kernel_rfl) (aw_ofC T_ok 1007 (by kernel_rfl) ?_)) rfl
  conv => whnf
  refine callS hu rfl ?_
  conv => whnf
  refine ⟨[1], _, _, _, _, _, nodupB_ok rfl, rfl, rfl, wk_refl _, c1, ?_⟩
  conv => whnf
  refine ⟨[1], _, _, _, _, _, nodupB_ok rfl, rfl, rfl, wk_refl _, c2, ?_⟩
  conv => whnf
  refine ⟨[1], _, _, _, _, _, nodupB_ok rfl, rfl, rfl, wk_refl _, c3, ?_⟩
  conv => whnf
  refine ⟨[1], _, _, _, _, _, nodupB_ok rfl, rfl, rfl, wk_refl _, c4, ?_⟩
  conv => whnf
  refine AW.meet (fun _ : Unit => True) (fun _ => [(2, .lf (.ptr 0 0)), (3, Sx ⟨#[]⟩), (4, Bl false), (5, Sx t), (6, Sx rest), (8, .lf (.ptr 1 0)), (9, .lf (.ptr 2 0))]) (fun _ => unpB kind id n ⟨#[]⟩ ⟨#[]⟩ [] q4) [.cell 2 5 37 6] ⟨rfl, (), trivial, ⟨rfl, rfl, rfl, rfl, rfl, rfl, rfl, trivial⟩, ⟨[], rfl⟩, rfl, rfl⟩ ?_
  rintro _ _
  refine AW.cut (fun x : Rec × RdS => x = bodyU ((kind, id, n), q4)) (fun x => [(2, .lf (.ptr 0 0)), (3, Sx ⟨#[]⟩), (4, Bl false), (5, Sx t), (6, Sx rest), (8, .lf (.ptr 1 0)), (9, .lf (.ptr 2 0))]) (fun x => unpB x.1.kind x.1.id x.1.n x.1.key x.1.body x.1.steps x.2) [] ?_ ?_
  · by_cases h1' : kind = 1
    rotate_left
    · refine aw_of T_ok (by kernel_rfl) ?_
      conv => whnf
      split <;> rename_i h1 <;> conv => whnf
      · exact absurd (eq_of_beq h1) h1'
      · exact ⟨_, rfl, ⟨rfl, rfl, rfl, rfl, rfl, rfl, rfl, trivial⟩, ⟨[], by rw [bodyU, if_neg h1']; rfl⟩, rfl, rfl⟩
    have hb : bodyU ((kind, id, n), q4) = (⟨kind, id, n, (rdT q4).1, (rdT (rdT q4).2).1, (rdWhile 6 (rdN (rdT (rdT q4).2).2).1 (rdN (rdT (rdT q4).2).2).2).1⟩, (rdWhile 6 (rdN (rdT (rdT q4).2).2).1 (rdN (rdT (rdT q4).2).2).2).2) := bodyU1 h1'
    have e1 := tktext_con q4
    generalize rdT q4 = x1 at e1 hb
    have e2 := tktext_con x1.2
    generalize rdT x1.2 = x2 at e2 hb
    have e3 := tknum_con x2.2
    generalize hx3 : rdN x2.2 = x3 at e3 hb
    obtain ⟨m, q5⟩ := x3
    have hm32 : -2147483648 ≤ m ∧ m < 2147483648 := by
      have := rdN_rng x2.2
      rw [hx3] at this
      exact this
    simp only at e3 hb
    refine aw_of T_ok (by kernel_rfl) ?_
    conv => whnf
    split <;> rename_i h1 <;> conv => whnf
    rotate_left
    · have : (kind == 1) = false := h1
      rw [h1'] at this
      simp at this
    refine ⟨[1], _, _, _, _, _, nodupB_ok rfl, rfl, rfl, wk_refl _, e1, ?_⟩
    conv => whnf
    refine ⟨[1], _, _, _, _, _, nodupB_ok rfl, rfl, rfl, wk_refl _, e2, ?_⟩
    conv => whnf
    refine ⟨[1], _, _, _, _, _, nodupB_ok rfl, rfl, rfl, wk_refl _, e3, ?_⟩
    conv => whnf
    refine AW.loop (fun p : Nat × List Step × RdS => p.1 ≤ 6 ∧ p.2.1.length = p.1 ∧ (p.2.1 ++ (rdWhile (6 - p.1) (m - p.1) p.2.2).1, (rdWhile (6 - p.1) (m - p.1) p.2.2).2) = rdWhile 6 m q5) (fun p => [(2, .lf (.ptr 0 0)), (3, Sx ⟨#[]⟩), (4, Bl false), (5, Sx t), (6, Sx rest), (8, .lf (.ptr 1 0)), (9, .lf (.ptr 2 0)), (10, Go.Rx.I m), (11, Go.Rx.I p.1)]) (fun p => unpB kind id n x1.1 x2.1 p.2.1 p.2.2) (fun p => 6 - p.1) [] ?_ ?_
    · exact ⟨(0, [], q5), ⟨Nat.zero_le _, rfl, by show ([] ++ (rdWhile 6 (m - ((0 : Nat) : Int)) q5).1, _) = _; rw [show m - ((0 : Nat) : Int) = m by omega]; rfl⟩, ⟨rfl, rfl, rfl, rfl, rfl, rfl, rfl, rfl, rfl, trivial⟩, ⟨[], rfl⟩, rfl, rfl⟩
    rintro ⟨k, l, q'⟩ ⟨hk, hl, hinv⟩
    simp only at hk hl hinv
    have wk : IntKind.i64.wrap ((k : Int) + 1) = ((k + 1 : Nat) : Int) := wrapI (by omega)
    have out : rdWhile (6 - k) (m - k) q' = ([], q') → ∃ x : Rec × RdS, x = bodyU ((kind, id, n), q4) ∧ x.1.kind = kind ∧ x.1.id = id ∧ x.1.n = n ∧ x.1.key = x1.1 ∧ x.1.body = x2.1 ∧ x.1.steps = l ∧ x.2 = q' := fun h => by
      rw [h] at hinv
      refine ⟨_, rfl, ?_⟩
      rw [hb, ← hinv]
      exact ⟨rfl, rfl, rfl, rfl, rfl, List.append_nil l, rfl⟩
    have stop : rdWhile (6 - k) (m - k) q' = ([], q') → ∃ x : Rec × RdS, x = bodyU ((kind, id, n), q4) ∧ unpB kind id n x1.1 x2.1 l q' = unpB x.1.kind x.1.id x.1.n x.1.key x.1.body x.1.steps x.2 := fun h => by
      obtain ⟨x, h0, h1, h2, h3, h4, h5, h6, h7⟩ := out h
      exact ⟨x, h0, by rw [h1, h2, h3, h4, h5, h6, h7]⟩
    obtain ⟨s', bad⟩ := q'
    cases bad
    rotate_left
    · have w : rdWhile (6 - k) (m - k) (s', true) = ([], (s', true)) := while_stop (.inr rfl)
      obtain ⟨x, hx, hB⟩ := stop w
      refine aw_of T_ok (by kernel_rfl) ?_
      conv => whnf
      split <;> rename_i h2 <;> conv => whnf
      · split <;> rename_i h3 <;> conv => whnf
        all_goals exact ⟨x, hx, ⟨rfl, rfl, rfl, rfl, rfl, rfl, rfl, trivial⟩, ⟨[], hB.trans (List.append_nil _).symm⟩, rfl, rfl⟩
      · exact ⟨x, hx, ⟨rfl, rfl, rfl, rfl, rfl, rfl, rfl, trivial⟩, ⟨[], hB.trans (List.append_nil _).symm⟩, rfl, rfl⟩
    by_cases hgo : (k : Int) < m ∧ k < 6
    rotate_left
    · have w : rdWhile (6 - k) (m - k) (s', false) = ([], (s', false)) := by
        by_cases c : (k : Int) < m
        · have : 6 - k = 0 := by omega
          rw [this]; rfl
        · exact while_stop (.inl (by omega))
      obtain ⟨x, hx, hB⟩ := stop w
      refine aw_of T_ok (by kernel_rfl) ?_
      conv => whnf
      split <;> rename_i h2 <;> conv => whnf
      · split <;> rename_i h3 <;> conv => whnf
        · have a1 : (k : Int) < m := of_decide_eq_true h2
          have a2 : (k : Int) < 6 := of_decide_eq_true h3
          exact absurd ⟨a1, by omega⟩ hgo
        · exact ⟨x, hx, ⟨rfl, rfl, rfl, rfl, rfl, rfl, rfl, trivial⟩, ⟨[], hB.trans (List.append_nil _).symm⟩, rfl, rfl⟩
      · exact ⟨x, hx, ⟨rfl, rfl, rfl, rfl, rfl, rfl, rfl, trivial⟩, ⟨[], hB.trans (List.append_nil _).symm⟩, rfl, rfl⟩
    have hs : rdStep (s', false) = (⟨(rdT (s', false)).1, (rdN (rdT (s', false)).2).1, (rdT (rdN (rdT (s', false)).2).2).1, (rdT (rdT (rdN (rdT (s', false)).2).2).2).1, (rdT (rdT (rdT (rdN (rdT (s', false)).2).2).2).2).1, (rdN (rdT (rdT (rdT (rdN (rdT (s', false)).2).2).2).2).2).1⟩, (rdN (rdT (rdT (rdT (rdN (rdT (s', false)).2).2).2).2).2).2) := rfl
    have d1 := tktext_con (s', false)
    generalize rdT (s', false) = y1 at d1 hs
    have d2 := tknum_con y1.2
    generalize rdN y1.2 = y2 at d2 hs
    have d3 := tktext_con y2.2
    generalize rdT y2.2 = y3 at d3 hs
    have d4 := tktext_con y3.2
    generalize rdT y3.2 = y4 at d4 hs
    have d5 := tktext_con y4.2
    generalize rdT y4.2 = y5 at d5 hs
    have d6 := tknum_con y5.2
    generalize rdN y5.2 = y6 at d6 hs
    have hnext : ((l ++ [(⟨y1.1, y2.1, y3.1, y4.1, y5.1, y6.1⟩ : Step)]) ++ (rdWhile (6 - (k + 1)) (m - ((k + 1 : Nat) : Int)) y6.2).1, (rdWhile (6 - (k + 1)) (m - ((k + 1 : Nat) : Int)) y6.2).2) = rdWhile 6 m q5 := by
      rw [← hinv, show 6 - k = (6 - (k + 1)) + 1 by omega, rdWhile, if_pos ⟨by omega, rfl⟩, hs, show m - (k : Int) - 1 = m - ((k + 1 : Nat) : Int) by omega]
      simp only [List.append_assoc, List.cons_append, List.nil_append]
    refine aw_of T_ok (by kernel_rfl) ?_
    conv => whnf
    split <;> rename_i h2 <;> conv => whnf
    rotate_left
    · exact absurd hgo.1 (of_decide_eq_false h2)
    split <;> rename_i h3 <;> conv => whnf
    rotate_left
    · have : ¬ (k : Int) < 6 := of_decide_eq_false h3
      omega
    refine AW.draw T_ok rfl (.fre 0 (.fre 2 (.fre 4 (.fre 6 (.fre 8 (.fre 10 (.fre 12 (.two 1 (listPl [3, 5, 7, 9, 11, 13, 14, 15, 16, 17, 18]) 3 (.two 1 (listPl [5, 7, 9, 11, 13, 14, 15, 16, 17, 18]) 5 (.two 1 (listPl [7, 9, 11, 13, 14, 15, 16, 17, 18]) 7 (.two 1 (listPl [9, 11, 13, 14, 15, 16, 17, 18]) 9 (.two 1 (listPl [11, 13, 14, 15, 16, 17, 18]) 11 (.two 1 (listPl [13, 14, 15, 16, 17, 18]) 13 (listPl [1, 14, 15, 16, 17, 18])))))))))))))) (by kernel_rfl) (by kernel_rfl) ?_
    conv => whnf
    refine ⟨?_, ?_⟩ <;> conv => whnf
    · refine ⟨[1], _, _, _, _, _, nodupB_ok rfl, rfl, rfl, wk_refl _, d1, ?_⟩
      refine bk_to (unpB kind id n x1.1 x2.1 l y1.2) rfl ?_
      conv => whnf
      refine ⟨[1], _, _, _, _, _, nodupB_ok rfl, rfl, rfl, wk_refl _, d2, ?_⟩
      refine bk_to (unpB kind id n x1.1 x2.1 l y2.2) rfl ?_
      conv => whnf
      refine ⟨[1], _, _, _, _, _, nodupB_ok rfl, rfl, rfl, wk_refl _, d3, ?_⟩
      refine bk_to (unpB kind id n x1.1 x2.1 l y3.2) rfl ?_
      conv => whnf
      refine ⟨[1], _, _, _, _, _, nodupB_ok rfl, rfl, rfl, wk_refl _, d4, ?_⟩
      refine bk_to (unpB kind id n x1.1 x2.1 l y4.2) rfl ?_
      conv => whnf
      refine ⟨[1], _, _, _, _, _, nodupB_ok rfl, rfl, rfl, wk_refl _, d5, ?_⟩
      refine bk_to (unpB kind id n x1.1 x2.1 l y5.2) rfl ?_
      conv => whnf
      refine ⟨[1], _, _, _, _, _, nodupB_ok rfl, rfl, rfl, wk_refl _, d6, ?_⟩
      refine bk_to (unpB kind id n x1.1 x2.1 l y6.2) rfl ?_
      conv => whnf
      refine ⟨rfl, _, .inl rfl, ?_⟩
      conv => whnf
      refine ⟨by rw [List.length_map], by show (l.length + 1) * 80 ≤ _; omega, ?_⟩
      conv => whnf
      refine ⟨(k + 1, l ++ [⟨y1.1, y2.1, y3.1, y4.1, y5.1, y6.1⟩], y6.2), ⟨⟨by omega, by rw [List.length_append, hl]; rfl, hnext⟩, by show 6 - (k + 1) < 6 - k; omega⟩, ⟨rfl, rfl, rfl, rfl, rfl, rfl, rfl, rfl, congrArg Go.Rx.I wk, trivial⟩, ⟨[?z], ?e⟩, rfl, rfl⟩
      case e =>
        show _ = [zeroV, rdr y6.2, .var [.pv (pI kind), .pv (pI id), .pv (pI n), .pv (pS x1.1), .pv (pS x2.1), .own 3 (l ++ [(⟨y1.1, y2.1, y3.1, y4.1, y5.1, y6.1⟩ : Step)]).length], .arr 37 6 ((l ++ [(⟨y1.1, y2.1, y3.1, y4.1, y5.1, y6.1⟩ : Step)]).map Step.enc)] ++ [_]
        rw [List.length_append, List.map_append]
        rfl
    · refine ⟨[1], _, _, _, _, _, nodupB_ok rfl, rfl, rfl, wk_refl _, d1, ?_⟩
      refine bk_to (unpB kind id n x1.1 x2.1 l y1.2) rfl ?_
      conv => whnf
      refine ⟨?_, ?_⟩ <;> conv => whnf
      · refine ⟨[1], _, _, _, _, _, nodupB_ok rfl, rfl, rfl, wk_refl _, d2, ?_⟩
        refine bk_to (unpB kind id n x1.1 x2.1 l y2.2) rfl ?_
        conv => whnf
        refine ⟨[1], _, _, _, _, _, nodupB_ok rfl, rfl, rfl, wk_refl _, d3, ?_⟩
        refine bk_to (unpB kind id n x1.1 x2.1 l y3.2) rfl ?_
        conv => whnf
        refine ⟨[1], _, _, _, _, _, nodupB_ok rfl, rfl, rfl, wk_refl _, d4, ?_⟩
        refine bk_to (unpB kind id n x1.1 x2.1 l y4.2) rfl ?_
        conv => whnf
        refine ⟨[1], _, _, _, _, _, nodupB_ok rfl, rfl, rfl, wk_refl _, d5, ?_⟩
        refine bk_to (unpB kind id n x1.1 x2.1 l y5.2) rfl ?_
        conv => whnf
        refine ⟨[1], _, _, _, _, _, nodupB_ok rfl, rfl, rfl, wk_refl _, d6, ?_⟩
        refine bk_to (unpB kind id n x1.1 x2.1 l y6.2) rfl ?_
        conv => whnf
        refine ⟨rfl, _, .inl rfl, ?_⟩
        conv => whnf
        refine ⟨by rw [List.length_map], by show (l.length + 1) * 80 ≤ _; omega, ?_⟩
        conv => whnf
        refine ⟨(k + 1, l ++ [⟨y1.1, y2.1, y3.1, y4.1, y5.1, y6.1⟩], y6.2), ⟨⟨by omega, by rw [List.length_append, hl]; rfl, hnext⟩, by show 6 - (k + 1) < 6 - k; omega⟩, ⟨rfl, rfl, rfl, rfl, rfl, rfl, rfl, rfl, congrArg Go.Rx.I wk, trivial⟩, ⟨[?z], ?e⟩, rfl, rfl⟩
        case e =>
          show _ = [zeroV, rdr y6.2, .var [.pv (pI kind), .pv (pI id), .pv (pI n), .pv (pS x1.1), .pv (pS x2.1), .own 3 (l ++ [(⟨y1.1, y2.1, y3.1, y4.1, y5.1, y6.1⟩ : Step)]).length], .arr 37 6 ((l ++ [(⟨y1.1, y2.1, y3.1, y4.1, y5.1, y6.1⟩ : Step)]).map Step.enc)] ++ [_]
          rw [List.length_append, List.map_append]
          rfl
      · refine ⟨[1], _, _, _, _, _, nodupB_ok rfl, rfl, rfl, wk_refl _, d2, ?_⟩
        refine bk_to (unpB kind id n x1.1 x2.1 l y2.2) rfl ?_
        conv => whnf
        refine ⟨?_, ?_⟩ <;> conv => whnf
        · refine ⟨[1], _, _, _, _, _, nodupB_ok rfl, rfl, rfl, wk_refl _, d3, ?_⟩
          refine bk_to (unpB kind id n x1.1 x2.1 l y3.2) rfl ?_
          conv => whnf
          refine ⟨[1], _, _, _, _, _, nodupB_ok rfl, rfl, rfl, wk_refl _, d4, ?_⟩
          refine bk_to (unpB kind id n x1.1 x2.1 l y4.2) rfl ?_
          conv => whnf
          refine ⟨[1], _, _, _, _, _, nodupB_ok rfl, rfl, rfl, wk_refl _, d5, ?_⟩
          refine bk_to (unpB kind id n x1.1 x2.1 l y5.2) rfl ?_
          conv => whnf
          refine ⟨[1], _, _, _, _, _, nodupB_ok rfl, rfl, rfl, wk_refl _, d6, ?_⟩
          refine bk_to (unpB kind id n x1.1 x2.1 l y6.2) rfl ?_
          conv => whnf
          refine ⟨rfl, _, .inl rfl, ?_⟩
          conv => whnf
          refine ⟨by rw [List.length_map], by show (l.length + 1) * 80 ≤ _; omega, ?_⟩
          conv => whnf
          refine ⟨(k + 1, l ++ [⟨y1.1, y2.1, y3.1, y4.1, y5.1, y6.1⟩], y6.2), ⟨⟨by omega, by rw [List.length_append, hl]; rfl, hnext⟩, by show 6 - (k + 1) < 6 - k; omega⟩, ⟨rfl, rfl, rfl, rfl, rfl, rfl, rfl, rfl, congrArg Go.Rx.I wk, trivial⟩, ⟨[?z], ?e⟩, rfl, rfl⟩
          case e =>
            show _ = [zeroV, rdr y6.2, .var [.pv (pI kind), .pv (pI id), .pv (pI n), .pv (pS x1.1), .pv (pS x2.1), .own 3 (l ++ [(⟨y1.1, y2.1, y3.1, y4.1, y5.1, y6.1⟩ : Step)]).length], .arr 37 6 ((l ++ [(⟨y1.1, y2.1, y3.1, y4.1, y5.1, y6.1⟩ : Step)]).map Step.enc)] ++ [_]
            rw [List.length_append, List.map_append]
            rfl
        · refine ⟨[1], _, _, _, _, _, nodupB_ok rfl, rfl, rfl, wk_refl _, d3, ?_⟩
          refine bk_to (unpB kind id n x1.1 x2.1 l y3.2) rfl ?_
          conv => whnf
          refine ⟨?_, ?_⟩ <;> conv => whnf
          · refine ⟨[1], _, _, _, _, _, nodupB_ok rfl, rfl, rfl, wk_refl _, d4, ?_⟩
            refine bk_to (unpB kind id n x1.1 x2.1 l y4.2) rfl ?_
            conv => whnf
            refine ⟨[1], _, _, _, _, _, nodupB_ok rfl, rfl, rfl, wk_refl _, d5, ?_⟩
            refine bk_to (unpB kind id n x1.1 x2.1 l y5.2) rfl ?_
            conv => whnf
            refine ⟨[1], _, _, _, _, _, nodupB_ok rfl, rfl, rfl, wk_refl _, d6, ?_⟩
            refine bk_to (unpB kind id n x1.1 x2.1 l y6.2) rfl ?_
            conv => whnf
            refine ⟨rfl, _, .inl rfl, ?_⟩
            conv => whnf
            refine ⟨by rw [List.length_map], by show (l.length + 1) * 80 ≤ _; omega, ?_⟩
            conv => whnf
            refine ⟨(k + 1, l ++ [⟨y1.1, y2.1, y3.1, y4.1, y5.1, y6.1⟩], y6.2), ⟨⟨by omega, by rw [List.length_append, hl]; rfl, hnext⟩, by show 6 - (k + 1) < 6 - k; omega⟩, ⟨rfl, rfl, rfl, rfl, rfl, rfl, rfl, rfl, congrArg Go.Rx.I wk, trivial⟩, ⟨[?z], ?e⟩, rfl, rfl⟩
            case e =>
              show _ = [zeroV, rdr y6.2, .var [.pv (pI kind), .pv (pI id), .pv (pI n), .pv (pS x1.1), .pv (pS x2.1), .own 3 (l ++ [(⟨y1.1, y2.1, y3.1, y4.1, y5.1, y6.1⟩ : Step)]).length], .arr 37 6 ((l ++ [(⟨y1.1, y2.1, y3.1, y4.1, y5.1, y6.1⟩ : Step)]).map Step.enc)] ++ [_]
              rw [List.length_append, List.map_append]
              rfl
          · refine ⟨[1], _, _, _, _, _, nodupB_ok rfl, rfl, rfl, wk_refl _, d4, ?_⟩
            refine bk_to (unpB kind id n x1.1 x2.1 l y4.2) rfl ?_
            conv => whnf
            refine ⟨?_, ?_⟩ <;> conv => whnf
            · refine ⟨[1], _, _, _, _, _, nodupB_ok rfl, rfl, rfl, wk_refl _, d5, ?_⟩
              refine bk_to (unpB kind id n x1.1 x2.1 l y5.2) rfl ?_
              conv => whnf
              refine ⟨[1], _, _, _, _, _, nodupB_ok rfl, rfl, rfl, wk_refl _, d6, ?_⟩
              refine bk_to (unpB kind id n x1.1 x2.1 l y6.2) rfl ?_
              conv => whnf
              refine ⟨rfl, _, .inl rfl, ?_⟩
              conv => whnf
              refine ⟨by rw [List.length_map], by show (l.length + 1) * 80 ≤ _; omega, ?_⟩
              conv => whnf
              refine ⟨(k + 1, l ++ [⟨y1.1, y2.1, y3.1, y4.1, y5.1, y6.1⟩], y6.2), ⟨⟨by omega, by rw [List.length_append, hl]; rfl, hnext⟩, by show 6 - (k + 1) < 6 - k; omega⟩, ⟨rfl, rfl, rfl, rfl, rfl, rfl, rfl, rfl, congrArg Go.Rx.I wk, trivial⟩, ⟨[?z], ?e⟩, rfl, rfl⟩
              case e =>
                show _ = [zeroV, rdr y6.2, .var [.pv (pI kind), .pv (pI id), .pv (pI n), .pv (pS x1.1), .pv (pS x2.1), .own 3 (l ++ [(⟨y1.1, y2.1, y3.1, y4.1, y5.1, y6.1⟩ : Step)]).length], .arr 37 6 ((l ++ [(⟨y1.1, y2.1, y3.1, y4.1, y5.1, y6.1⟩ : Step)]).map Step.enc)] ++ [_]
                rw [List.length_append, List.map_append]
                rfl
            · refine ⟨[1], _, _, _, _, _, nodupB_ok rfl, rfl, rfl, wk_refl _, d5, ?_⟩
              refine bk_to (unpB kind id n x1.1 x2.1 l y5.2) rfl ?_
              conv => whnf
              refine ⟨?_, ?_⟩ <;> conv => whnf
              · refine ⟨[1], _, _, _, _, _, nodupB_ok rfl, rfl, rfl, wk_refl _, d6, ?_⟩
                refine bk_to (unpB kind id n x1.1 x2.1 l y6.2) rfl ?_
                conv => whnf
                refine ⟨rfl, _, .inl rfl, ?_⟩
                conv => whnf
                refine ⟨by rw [List.length_map], by show (l.length + 1) * 80 ≤ _; omega, ?_⟩
                conv => whnf
                refine ⟨(k + 1, l ++ [⟨y1.1, y2.1, y3.1, y4.1, y5.1, y6.1⟩], y6.2), ⟨⟨by omega, by rw [List.length_append, hl]; rfl, hnext⟩, by show 6 - (k + 1) < 6 - k; omega⟩, ⟨rfl, rfl, rfl, rfl, rfl, rfl, rfl, rfl, congrArg Go.Rx.I wk, trivial⟩, ⟨[?z], ?e⟩, rfl, rfl⟩
                case e =>
                  show _ = [zeroV, rdr y6.2, .var [.pv (pI kind), .pv (pI id), .pv (pI n), .pv (pS x1.1), .pv (pS x2.1), .own 3 (l ++ [(⟨y1.1, y2.1, y3.1, y4.1, y5.1, y6.1⟩ : Step)]).length], .arr 37 6 ((l ++ [(⟨y1.1, y2.1, y3.1, y4.1, y5.1, y6.1⟩ : Step)]).map Step.enc)] ++ [_]
                  rw [List.length_append, List.map_append]
                  rfl
              · refine ⟨[1], _, _, _, _, _, nodupB_ok rfl, rfl, rfl, wk_refl _, d6, ?_⟩
                refine bk_to (unpB kind id n x1.1 x2.1 l y6.2) rfl ?_
                conv => whnf
                refine ⟨rfl, _, .inl rfl, ?_⟩
                conv => whnf
                refine ⟨by rw [List.length_map], by show (l.length + 1) * 80 ≤ _; omega, ?_⟩
                conv => whnf
                refine ⟨(k + 1, l ++ [⟨y1.1, y2.1, y3.1, y4.1, y5.1, y6.1⟩], y6.2), ⟨⟨by omega, by rw [List.length_append, hl]; rfl, hnext⟩, by show 6 - (k + 1) < 6 - k; omega⟩, ⟨rfl, rfl, rfl, rfl, rfl, rfl, rfl, rfl, congrArg Go.Rx.I wk, trivial⟩, ⟨[?z], ?e⟩, rfl, rfl⟩
                case e =>
                  show _ = [zeroV, rdr y6.2, .var [.pv (pI kind), .pv (pI id), .pv (pI n), .pv (pS x1.1), .pv (pS x2.1), .own 3 (l ++ [(⟨y1.1, y2.1, y3.1, y4.1, y5.1, y6.1⟩ : Step)]).length], .arr 37 6 ((l ++ [(⟨y1.1, y2.1, y3.1, y4.1, y5.1, y6.1⟩ : Step)]).map Step.enc)] ++ [_]
                  rw [List.length_append, List.map_append]
                  rfl
  rintro x hx
  rw [← hx] at hres hbo
  obtain ⟨r, q, bad⟩ := x
  have hrl : (r.steps.map Step.enc).length = r.steps.length := List.length_map ..
  have no : ∀ b : Bool, b = false → (if b = true then (r, rest, true) else (zeroR, ⟨#[]⟩, false)) = (zeroR, ⟨#[]⟩, false) := fun b h => by rw [h]; rfl
  cases bad
  rotate_left
  · obtain rfl : (zeroR, ⟨#[]⟩, false) = res := hres
    refine aw_of T_ok (by kernel_rfl) ?_
    conv => whnf
    exact ⟨[.cell 0 5 37 6], rfl, [4], [.agg (recOA zeroR), Sx ⟨#[]⟩, Bl false], [.agg (recOA zeroR), Sx ⟨#[]⟩, Bl false], rfl, rfl, rfl, wk_refl _, rfl⟩
  have hg : goodP t (r, q, false) = (recB r && (plainS r == t)) := rfl
  rw [hg] at hres
  by_cases hr : recB r = true
  rotate_left
  · obtain rfl : (zeroR, ⟨#[]⟩, false) = res := (no _ (by simp [hr])).symm.trans hres
    refine aw_of T_ok (by kernel_rfl) ?_
    conv => whnf
    refine ⟨hrl, ?_⟩
    have hc := rec9_con r hbo
    rw [show recB r = false by simpa using hr] at hc
    refine callS hc rfl ?_
    conv => whnf
    exact ⟨[.cell 0 5 37 6], rfl, [4], [.agg (recOA zeroR), Sx ⟨#[]⟩, Bl false], [.agg (recOA zeroR), Sx ⟨#[]⟩, Bl false], rfl, rfl, rfl, wk_refl _, rfl⟩
  have hc := rec9_con r hbo
  rw [hr] at hc
  refine aw_of T_ok (by kernel_rfl) ?_
  conv => whnf
  refine ⟨hrl, ?_⟩
  refine callS hc rfl ?_
  conv => whnf
  refine ⟨hrl, ?_⟩
  refine callS (rplain_con r (small_of hr)) rfl ?_
  conv => whnf
  split <;> rename_i h4 <;> conv => whnf
  · have h4' : plainS r ≠ t := bne_of h4
    obtain rfl : (zeroR, ⟨#[]⟩, false) = res := (no _ (by simp [h4'])).symm.trans hres
    exact ⟨[.cell 0 5 37 6], rfl, [4], [.agg (recOA zeroR), Sx ⟨#[]⟩, Bl false], [.agg (recOA zeroR), Sx ⟨#[]⟩, Bl false], rfl, rfl, rfl, wk_refl _, rfl⟩
  · have h4' : plainS r = t := eq_of_bne h4
    obtain rfl : (r, rest, true) = res := (if_pos (by rw [hr, h4']; simp)).symm.trans hres
    exact ⟨[], [3], [.agg (recOA r), Sx rest, Bl true], [.agg (recOA r), Sx rest, Bl true], rfl, rfl, rfl, wk_refl _, rfl⟩
end Go.Proofs.YtdifjeaplceadaaGreat.Rx

/- What is known of slots, said of values that stand for more. -/
set_option linter.unusedVariables false
namespace Go.Rx
open Go.RowKit
def agreeW (sl : Slots) : List (Nat × AV) → Prop
  | [] => True
  | (t, x) :: l => WkA (sl t) x ∧ agreeW sl l
theorem agreeW_get {sl : Slots} : ∀ {S : List (Nat × AV)} {t : Nat}, agreeW sl S → mkS S t = .un ∨ WkA (sl t) (mkS S t)
  | [], t, _ => .inl rfl
  | (t0, x) :: S, t, h => by
    by_cases e : t = t0
    · subst e
      right
      have : mkS ((t, x) :: S) t = x := by simp [mkS, List.lookup]
      rw [this]; exact h.1
    · have : mkS ((t0, x) :: S) t = mkS S t := by
        have hb : (t == t0) = false := by simpa using e
        simp [mkS, List.lookup, hb]
      rw [this]
      exact agreeW_get h.2
theorem AW.wk {P : Program} {n : Fr} {c : Code} {Q : Post} {sl : Slots} {bk : List Blk} (S : List (Nat × AV)) (h : agreeW sl S) (hm : AW P n c Q (mkS S) bk) : AW P n c Q sl bk := by
  refine ⟨fun C G a w hn hr => hm.out C G a w hn ⟨hr.size, hr.dfr, fun t => ?_, hr.mem⟩⟩
  rcases agreeW_get (t := t) h with h1 | h1
  · rw [h1]; trivial
  · exact wkA_rep h1 (hr.slots t)
end Go.Rx

/- Blocks renamed, at a place and where ways meet. -/
set_option linter.unusedVariables false
set_option linter.unusedSimpArgs false
namespace Go.Rx
open Go.RowKit
def renS (idx : List Nat) : List (Nat × AV) → Option (List (Nat × AV))
  | [] => some []
  | (t, x) :: l => match renA idx x, renS idx l with | some y, some ys => some ((t, y) :: ys) | _, _ => none
theorem renS_get {sl : Slots} {idx : List Nat} : ∀ {S S' : List (Nat × AV)} {t : Nat}, agree sl S → renS idx S = some S' → mkS S' t = .un ∨ renA idx (sl t) = some (mkS S' t)
  | [], S', t, _, h => by cases h; exact .inl rfl
  | (t0, x) :: S, S', t, ha, h => by
    unfold renS at h
    split at h
    · rename_i y ys hy hys
      cases h
      by_cases e : t = t0
      · subst e
        right
        have : mkS ((t, y) :: ys) t = y := by simp [mkS, List.lookup]
        rw [this, ha.1]; exact hy
      · have : mkS ((t0, y) :: ys) t = mkS ys t := by
          have hb : (t == t0) = false := by simpa using e
          simp [mkS, List.lookup, hb]
        rw [this]
        exact renS_get ha.2 hys
    · cases h
/-- What is known, told of these blocks alone, in this order. -/
def SelK (m : Nat) (idx : List Nat) (S : List (Nat × AV)) (sl : Slots) (bk : List Blk) (K : Slots → List Blk → Prop) : Prop :=
  agree sl S ∧ (nodupB idx && (Nat.ble m idx.length && heads 0 (idx.take m))) = true ∧ ∃ S' B, renS idx S = some S' ∧ pickB idx bk idx = some B ∧ K (mkS S') B
theorem Rel.sel {C : Ctx} {G : Gh} {sl : Slots} {bk : List Blk} {a : Act} {w : World} {m : Nat} (hr : Rel C G sl bk a w) (hm : C.m = m) {idx : List Nat} {S : List (Nat × AV)} {K : Slots → List Blk → Prop} (h : SelK m idx S sl bk K) :
    ∃ G' sl' bk', K sl' bk' ∧ Rel C G' sl' bk' a w := by
  obtain ⟨ha, hx, S', B, hS, hB, hk⟩ := h
  simp only [Bool.and_eq_true] at hx
  subst hm
  obtain ⟨m2, rep⟩ := hr.mem.sel (nodupB_ok hx.1) hB (Nat.le_of_ble_eq_true hx.2.1) hx.2.2
  refine ⟨G.pick idx, _, B, hk, hr.size, hr.dfr, fun t => ?_, m2⟩
  rcases renS_get (t := t) ha hS with h1 | h1
  · rw [h1]; trivial
  · have h0 := hr.slots t
    generalize mkS S' t = y at h1
    generalize sl t = x at h1 h0
    have h2 : renAs idx [x] = some [y] := by simp [renAs, h1]
    exact (renAs_rep rep h2 (us := [_]) ⟨h0, trivial⟩).1
theorem AW.sel {P : Program} {n : Fr} {c : Code} {Q : Post} {sl : Slots} {bk : List Blk} (idx : List Nat) (S : List (Nat × AV)) (h : SelK n.m idx S sl bk fun sl bk => AW P n c Q sl bk) : AW P n c Q sl bk := by
  refine ⟨fun C G a w hn hr => ?_⟩
  obtain ⟨G', sl', bk', hk, hr'⟩ := hr.sel hn.2 h
  exact hk.out C G' a w hn hr'
/-- Ways meet where their blocks are named unlike. -/
theorem AW.cutS {P : Program} {n : Fr} {sl : Slots} {bk : List Blk} {α : Type} (I : α → Prop) (S : α → List (Nat × AV)) (B : α → List Blk) {x y : Code} {Q : Post}
    (hx : AW P n x (thenQ (fun sl bk => ∃ idx S0, SelK n.m idx S0 sl bk fun sl bk => ∃ ns, nilsK ns sl bk (Meets n.m I S B)) Q) sl bk) (hm : ∀ i, I i → AW P n y Q (mkS (S i)) (B i)) : AW P n (.seq x y) Q sl bk := by
  refine ⟨fun C G a w hn hr => ?_⟩
  refine wp_seq (wp_mono (hx.out C G a w hn hr) fun e a w ⟨G', sl', bk', hk, h'⟩ => ?_)
  cases e <;> first
    | exact ⟨G', sl', bk', hk, h'⟩
    | skip
  obtain ⟨idx, S0, hs⟩ := hk
  obtain ⟨G2, sl2, bk2, ⟨ns, hk2⟩, h2⟩ := h'.sel hn.2 hs
  obtain ⟨G1, sl1, bk1, ⟨i, hi, hf⟩, h1⟩ := nilsK_sound h2 hk2
  exact (hm i hi).out C G1 a w hn (h1.fits hn.2 hf)
end Go.Rx

/- Small functions that several layers share: numbers within bounds, copies of texts, what writes over steps. -/
set_option linter.unusedVariables false
set_option linter.unusedSimpArgs false
namespace Go.Rx
def within (i n : Int) : Int := IntKind.i64.wrap (IntKind.u64.wrap i % IntKind.u64.wrap n)
theorem u64_wrap (n : Int) : IntKind.u64.wrap n = n % 18446744073709551616 := rfl
theorem within_lt {i n : Int} (h : 0 < n ∧ n ≤ 1073741824) : 0 ≤ within i n ∧ within i n < n := by
  rw [within, u64_wrap, u64_wrap, show n % 18446744073709551616 = n by omega]
  have h1 := Int.emod_nonneg (i % 18446744073709551616) (show n ≠ 0 by omega)
  have h2 := Int.emod_lt_of_pos (i % 18446744073709551616) (show 0 < n by omega)
  rw [wrapI (by omega)]
  exact ⟨h1, h2⟩
def spoilt : Step := ⟨⟨#[115, 112, 111, 105, 108, 116]⟩, 0, ⟨#[]⟩, ⟨#[]⟩, ⟨#[]⟩, 0⟩
theorem set_next {α β : Type} {e : α → β} {x : β} {l : List α} {k : Nat} (h : k < l.length) : ((l.take k).map (fun _ => x) ++ (l.drop k).map e).set (k : Int).toNat x = (l.take (k + 1)).map (fun _ => x) ++ (l.drop (k + 1)).map e := by
  have h1 : ((l.take k).map (fun _ => x)).length = k := by rw [List.length_map, List.length_take]; omega
  rw [Int.toNat_natCast, List.set_append_right _ _ (by omega), h1, Nat.sub_self, List.drop_eq_getElem_cons h, List.take_succ_eq_append_getElem h, List.map_append, List.map_cons, List.set_cons_zero, List.append_assoc]
  rfl
end Go.Rx
namespace Go.Proofs.YtdifjeaplceadaaGreat.Rx
open Go.Rx Go.Proofs

theorem within_con (i n : Int) (h : 0 < n ∧ n ≤ 1073741824) : Con P 24 [I i, I n] (I (within i n)) [] := by
  refine Con.of T_ok Tryz.func24 rfl (by kernel_rfl) (by kernel_rfl) (aw_of T_ok (by kernel_rfl) ?_)
  conv => whnf
  refine ⟨by rw [u64_wrap]; omega, by rw [u64_wrap]; omega, ?_⟩
  conv => whnf
  exact finI ⟨rfl⟩
theorem copyStringsO_con (l : List ByteArray) (hl : l.length * 16 ≤ 140737488351232) : Con P 18 [.lf (.pv (encStrs l))] (.lf (.own 0 l.length)) [.arr 9 1 (l.map fun s => [pS s])] := by
  refine ConG.con (ConG.of T_ok Tryz.func18 rfl (by kernel_rfl) (by kernel_rfl) (aw_of T_ok (by kernel_rfl) ?_)) rfl
  conv => whnf
  refine AW.loop (fun k : Nat => k ≤ l.length) (fun k => [(0, .lf (.pv (encStrs l))), (3, .lf (.own 0 k)), (4, Go.Rx.I k)]) (fun k => [.arr 9 1 ((l.take k).map fun s => [pS s])]) (fun k => l.length - k) [.slot 3 9 1] ?_ ?_
  · exact ⟨rfl, 0, Nat.zero_le _, ⟨rfl, rfl, rfl, trivial⟩, ⟨[], rfl⟩, rfl, rfl⟩
  · intro k hk
    refine aw_of T_ok (by kernel_rfl) ?_
    conv => whnf
    split <;> rename_i hlt <;> conv => whnf
    · have hkl : k < l.length := by simp at hlt; omega
      refine ⟨by omega, [pS l[k]], by simp [hkl], ?_⟩
      conv => whnf
      refine ⟨rfl, _, .inl rfl, ?_⟩
      conv => whnf
      refine ⟨by simp; omega, by show (k + 1) * 16 ≤ _; omega, ?_⟩
      conv => whnf
      refine ⟨k + 1, ⟨by omega, by omega⟩, ⟨rfl, rfl, congrArg Go.Rx.I (wrapI (by omega)), trivial⟩, ⟨[?r], ?e⟩, rfl, rfl⟩
      case e => show _ = [Blk.arr _ _ (List.map (fun s => [pS s]) (l.take (k + 1)))] ++ [_]; rw [take_succ' hkl, List.map_append]; rfl
    · have hkl : k = l.length := by simp at hlt; omega
      subst hkl
      refine ⟨[], [0], [.lf (.own 0 l.length)], [.lf (.own 0 l.length)], rfl, ?_, rfl, wk_refl _, rfl⟩
      show some [Blk.arr _ 1 ((l.take l.length).map fun s => [pS s])] = _
      rw [List.take_length]
theorem spoilSteps_con (l : List Step) (hl : l.length * 80 ≤ 140737488351232) : ConG P 29 [.arr 37 6 (l.map Step.enc)] [.lf (.own 0 l.length)] (.tup []) [.arr 37 6 (l.map fun _ => spoilt.enc)] := by
  have hm : (l.map Step.enc).length = l.length := List.length_map ..
  refine ConG.of T_ok Tryz.func29 rfl (by kernel_rfl) (by kernel_rfl) (aw_of T_ok (by kernel_rfl) ?_)
  conv => whnf
  refine AW.loop (fun k : Nat => k ≤ l.length) (fun k => [(0, .lf (.own 0 l.length)), (2, Go.Rx.I k)]) (fun k => [.arr 37 6 ((l.take k).map (fun _ => spoilt.enc) ++ (l.drop k).map Step.enc)]) (fun k => l.length - k) [] ?_ ?_
  · exact ⟨0, Nat.zero_le _, ⟨rfl, rfl, trivial⟩, ⟨[], rfl⟩, rfl, rfl⟩
  rintro k hk
  have hrl : ((l.take k).map (fun _ => spoilt.enc) ++ (l.drop k).map Step.enc).length = l.length := by simp; omega
  refine aw_of T_ok (by kernel_rfl) ?_
  conv => whnf
  refine ⟨hrl, ?_⟩
  conv => whnf
  split <;> rename_i hlt <;> conv => whnf
  · have hkl : k < l.length := by have := of_decide_eq_true hlt; omega
    refine ⟨hrl, by omega, by omega, ?_⟩
    conv => whnf
    refine ⟨rfl, hrl, (l[k]).enc, ?_, ?_⟩
    · show ((l.take k).map (fun _ => spoilt.enc) ++ (l.drop k).map Step.enc)[(k : Int).toNat]? = _
      rw [Int.toNat_natCast, List.getElem?_append_right (by simp; omega)]
      simp [Nat.min_eq_left hk, hkl]
    conv => whnf
    refine ⟨by decide, ?_⟩
    conv => whnf
    refine ⟨k + 1, ⟨by omega, by omega⟩, ⟨rfl, congrArg Go.Rx.I (wrapI (by omega)), trivial⟩, ⟨[], ?e⟩, rfl, rfl⟩
    case e =>
      rw [List.append_nil]
      exact congrArg (fun r => [Blk.arr _ 6 r]) (set_next (e := Step.enc) (x := spoilt.enc) hkl)
  · have hkl : k = l.length := by have := of_decide_eq_false hlt; omega
    subst hkl
    refine ⟨[], [0], [], [], rfl, ?_, rfl, trivial, rfl⟩
    show some [Blk.arr _ 6 ((l.take l.length).map (fun _ => spoilt.enc) ++ (l.drop l.length).map Step.enc)] = _
    rw [List.take_length, List.drop_length, List.map_nil, List.append_nil]
theorem copyRec_con (r : Rec) (h : r.Ok) : Con P 10 [encRec r] (encRec r) [] := by
  refine Con.of T_ok Tryz.func10 rfl (by kernel_rfl) (by kernel_rfl) (aw_of T_ok (by kernel_rfl) ?_)
  conv => whnf
  refine callU (copySteps_con _ h.steps.len) (fun _ => rfl) ?_
  conv => whnf
  exact finA ⟨rfl⟩
end Go.Proofs.YtdifjeaplceadaaGreat.Rx

/- Records as bytes, and back; a byte another one: plain words, and what is kept free. -/
set_option linter.unusedVariables false
set_option linter.unusedSimpArgs false
namespace Go.Rx
def reserveP (n : Int) : Int × Int := if 1 ≤ n ∧ n ≤ 5 then (24 * (3 * n + 2), 0) else (0, 1)
abbrev strRows (L : List ByteArray) : List (List PV) := L.map fun s => [pS s]
theorem plain_le {r : Rec} (h : SmallR r) : 16 ≤ (plainS r).size ∧ (plainS r).size ≤ 8000 := by
  have h1 := more_len h
  have h2 := steps_len h.st
  have h3 := h.len
  have e : (plainS r).size = (plainL r).length := bytesOf_size _
  rw [e, plainL]
  split
  · simp only [List.length_append, head_len]; omega
  · rw [head_len]; omega
theorem frame_le (p : ByteArray) : (frame p).size ≤ 4008 := by
  rw [frame]
  split
  · exact Nat.zero_le _
  · rw [bytesOf_size, frmL]
    have : p.data.toList.length = p.size := rfl
    simp only [List.length_append, be4_len, this]; omega
theorem nine_eq {r : Rec} (h : recB r = true) : bytesR r = ((bytes9R r).1, if (bytes9R r).2 = true then 0 else 2) ∧ (bytes9R r).1.size ≤ 4008 ∧ ((bytes9R r).2 = false → (bytes9R r).1 = ⟨#[]⟩) := by
  rw [bytesR, if_pos h, frmR, bytes9R]
  split
  · exact ⟨rfl, Nat.zero_le _, fun _ => rfl⟩
  · exact ⟨rfl, frame_le _, fun h => by cases h⟩
/-- One byte is another. -/
theorem rows_set (l : List UInt8) (i : Nat) (x : Int) : (rowsB l).set i [.sc (.int .u8 (IntKind.u8.wrap x))] = byteRows (bytesOf (l.set i (byteZ x))) := by
  rw [byteZ_wrap, ← rowsB_back, rowsB, rowsB, List.map_set]
end Go.Rx
namespace Go.Proofs.YtdifjeaplceadaaGreat.Rx
open Go.Rx Go.Proofs Go.Proofs.YtdifjeaplceadaaGreat.RxB
theorem reserve_con (n : Int) (hn : -100 ≤ n ∧ n ≤ 100) : Con P 30 [Go.Rx.I n] (.tup [.lf (.pv (pI (reserveP n).1)), .lf (.pv (pI (reserveP n).2))]) [] := by
  obtain ⟨q, hq⟩ : ∃ q, q = reserveP n := ⟨_, rfl⟩
  rw [← hq]
  refine Con.of T_ok Tryz.func30 rfl (by kernel_rfl) (by kernel_rfl) (aw_of T_ok (by kernel_rfl) ?_)
  conv => whnf
  split <;> rename_i h1 <;> conv => whnf
  · have h1' : n < 1 := of_decide_eq_true h1
    rw [reserveP, if_neg (by omega)] at hq
    subst hq
    exact finA ⟨rfl⟩
  · have h1' : ¬ n < 1 := of_decide_eq_false h1
    split <;> rename_i h2 <;> conv => whnf
    · have h2' : 5 < n := of_decide_eq_true h2
      rw [reserveP, if_neg (by omega)] at hq
      subst hq
      exact finA ⟨rfl⟩
    · have h2' : ¬ 5 < n := of_decide_eq_false h2
      rw [reserveP, if_pos (by omega)] at hq
      subst hq
      have e : IntKind.i64.wrap (24 * IntKind.i64.wrap (IntKind.i64.wrap (3 * n) + 2)) = 24 * (3 * n + 2) := by
        rw [wrapI (n := 3 * n) (by omega), wrapI (n := 3 * n + 2) (by omega), wrapI (by omega)]
      exact finA ⟨congrArg (fun k => some (AV.tup [.lf (.pv (pI k)), .lf (.pv (pI 0))])) e⟩
end Go.Proofs.YtdifjeaplceadaaGreat.Rx

/- Records as bytes, and back: the law's body. -/
set_option linter.unusedVariables false
set_option linter.unusedSimpArgs false
namespace Go.Rx
abbrev recVb (r : Rec) : Blk := .var [.pv (pI r.kind), .pv (pI r.id), .pv (pI r.n), .pv (pS r.key), .pv (pS r.body), .pv (encSteps r.steps)]
theorem take_len {s : ByteArray} (h : okS s) : (takeR s).1.steps.length ≤ 5 := by
  rw [takeR]
  split
  · split
    · exact (body_ok (unf_ok h)).2
    · exact Nat.zero_le _
  · exact Nat.zero_le _
def okL (L : List ByteArray) : Prop := ∀ s ∈ L, okS s
theorem okL_app {L M : List ByteArray} (h : okL L) (k : okL M) : okL (L ++ M) := fun s hs => by
  rcases List.mem_append.1 hs with h1 | h1
  · exact h s h1
  · exact k s h1
theorem rows_app (L M : List ByteArray) : strRows (L ++ M) = strRows L ++ strRows M := List.map_append
theorem chk_ok (may : Bool) : (((if may = true then (0 : Int) else 1) == 0) != may) = false := by cases may <;> rfl
end Go.Rx
theorem neq_self (n : Int) : (n != n) = false := by simp
namespace Go.Proofs.YtdifjeaplceadaaGreat.Rx
open Go.Rx Go.Proofs Go.Proofs.YtdifjeaplceadaaGreat.RxB
abbrev txtB (L : List ByteArray) : Blk := .arr 9 1 (strRows L)
set_option maxRecDepth 100000 in
set_option maxHeartbeats 8000000 in
theorem recordBytes_con (R : List Rec) (S : List ByteArray) (N : List Int) (h : Ask11 R S) : Con P 11 [encAsk11 R S N] (Bl true) [] := by
  obtain ⟨hv, chv⟩ := heavy11_con R S N h.len h.each h.strs
  have hRm : (R.map Rec.enc).length = R.length := List.length_map ..
  have hlen := h.len
  have hstr := h.strs
  have hS : okL S := h.txt
  cases hv
  rotate_left
  · refine Con.of T_ok Tryz.func11 rfl (by kernel_rfl) (by kernel_rfl) (aw_of T_ok (by kernel_rfl) ?_)
    conv => whnf
    refine callS chv rfl ?_
    conv => whnf
    exact finB ⟨rfl⟩
  refine Con.of T_ok Tryz.func11 rfl (by kernel_rfl) (by kernel_rfl) (aw_ofC T_ok 1004 (by kernel_rfl) ?_)
  conv => whnf
  refine callS chv rfl ?_
  conv => whnf
  refine ⟨_, _, _, wk_refl _, copyStringsO_con S h.strs, .inr ?_⟩
  conv => whnf
  refine AW.cutS (fun L : List ByteArray => L.length ≤ 4 ∧ okL L) (fun L => [(1, .lf (.ptr 0 0)), (3, .lf (.own 1 L.length))]) (fun L => [ask11V R S N, txtB L]) (aw_of T_ok (by kernel_rfl) ?_) ?_
  · conv => whnf
    refine ⟨List.length_map .., ?_⟩
    conv => whnf
    split <;> rename_i t1 <;> conv => whnf
    · have h4 : 4 < S.length := by have : (4 : Int) < (S.length : Int) := of_decide_eq_true t1
                                   omega
      refine .inl ?_
      conv => whnf
      refine ⟨List.length_map .., by decide, by omega, ?_⟩
      conv => whnf
      refine ⟨[0, 2], [(1, .lf (.ptr 0 0)), (3, .lf (.own 2 4))], ⟨rfl, rfl, trivial⟩, rfl, _, _, rfl, rfl, [], ?_⟩
      refine ⟨S.take 4, ⟨by rw [List.length_take]; omega, fun s hs => hS s (List.mem_of_mem_take hs)⟩, ⟨rfl, ?_, trivial⟩, ⟨[], ?_⟩, rfl, rfl⟩
      · show AV.lf (.own 1 4) = AV.lf (.own 1 (S.take 4).length)
        rw [List.length_take, Nat.min_eq_left (by omega)]
      · show [_, Blk.arr _ 1 ((strRows S).take 4)] = [_, Blk.arr _ 1 (strRows (S.take 4))] ++ []
        rw [strRows, strRows, List.map_take]; rfl
    · have h4 : ¬ 4 < S.length := by have : ¬ (4 : Int) < (S.length : Int) := of_decide_eq_false t1
                                     omega
      refine ⟨[0, 1], [(1, .lf (.ptr 0 0)), (3, .lf (.own 1 S.length))], ⟨rfl, rfl, trivial⟩, rfl, _, _, rfl, rfl, [], ?_⟩
      exact ⟨S, ⟨by omega, hS⟩, ⟨rfl, rfl, trivial⟩, ⟨[], rfl⟩, rfl, rfl⟩
  rintro L0 ⟨hL0, hok0⟩
  refine aw_ofC T_ok 1006 (by kernel_rfl) ?_
  conv => whnf
  refine AW.cut (fun L : List ByteArray => L.length ≤ 164 ∧ okL L) (fun L => [(1, .lf (.ptr 0 0)), (3, .lf (.own 1 L.length))]) (fun L => [ask11V R S N, txtB L]) [] (aw_of T_ok (by kernel_rfl) ?_) ?_
  · conv => whnf
    refine AW.loop (fun p : Nat × List ByteArray => p.1 ≤ R.length ∧ p.1 ≤ 8 ∧ p.2.length ≤ 4 + 20 * p.1 ∧ okL p.2) (fun p => [(1, .lf (.ptr 0 0)), (3, .lf (.own 1 p.2.length)), (4, Go.Rx.I p.1)]) (fun p => [ask11V R S N, txtB p.2]) (fun p => R.length - p.1) [] ?_ ?_
    · exact ⟨(0, L0), ⟨Nat.zero_le _, Nat.zero_le _, hL0, hok0⟩, ⟨rfl, rfl, rfl, trivial⟩, ⟨[], rfl⟩, rfl, rfl⟩
    rintro ⟨i, L⟩ ⟨hi, hi8, hL, hok⟩
    simp only at hi hi8 hL hok
    have wi : IntKind.i64.wrap ((i : Int) + 1) = ((i + 1 : Nat) : Int) := wrapI (by omega)
    by_cases hiR : i < R.length ∧ i < 8
    rotate_left
    · refine aw_of T_ok (by kernel_rfl) ?_
      conv => whnf
      split <;> rename_i t1 <;> conv => whnf
      · split <;> rename_i t2 <;> conv => whnf
        · have a1 : (i : Int) < ((R.map Rec.enc).length : Int) := of_decide_eq_true t1
          have a2 : (i : Int) < 8 := of_decide_eq_true t2
          exact absurd ⟨by omega, by omega⟩ hiR
        · exact ⟨L, ⟨by omega, hok⟩, ⟨rfl, rfl, trivial⟩, ⟨[], rfl⟩, rfl, rfl⟩
      · exact ⟨L, ⟨by omega, hok⟩, ⟨rfl, rfl, trivial⟩, ⟨[], rfl⟩, rfl, rfl⟩
    obtain ⟨hiR, hi8'⟩ := hiR
    have hrow : (R.map Rec.enc)[i]? = some R[i].enc := by simp [hiR]
    have hr := h.each _ (List.getElem_mem hiR)
    generalize R[i] = r at hrow hr
    have cb := bytes_con r hr
    have cs := rsize_con r hr
    have hsr : sizeR r = (((bytesR r).1.size : Int), (bytesR r).2) := rfl
    rw [hsr] at cs
    have cc := copyRec_con r hr
    have c9 := rec9_con r hr
    have ck := rcheck_con r hr
    have ce := eqRec_con r r hr.steps.len
    rw [decide_eq_true rfl] at ce
    obtain ⟨may, hmay⟩ : ∃ may, may = recB r := ⟨_, rfl⟩
    rw [← hmay] at c9 ck
    have hn9 := fun e : may = true => nine_eq (r := r) (hmay ▸ e)
    have hn1 : may = false → bytesR r = (⟨#[]⟩, 1) := fun e => by rw [bytesR, if_neg (by rw [← hmay, e]; decide)]
    have h91 := fun e : may = true => bytes9_con r (small_of (r := r) (hmay ▸ e))
    have hpl := fun e : may = true => rplain_con r (small_of (r := r) (hmay ▸ e))
    have hps := fun e : may = true => plain_le (small_of (r := r) (hmay ▸ e))
    clear hmay
    have he : -9223372036854775808 ≤ (bytesR r).2 ∧ (bytesR r).2 ≤ 9223372036854775807 := by
      cases may
      · rw [hn1 rfl]; decide
      · rw [(hn9 rfl).1]; simp only; split <;> decide
    generalize bytesR r = x at cb cs he hn9 hn1
    obtain ⟨b, e⟩ := x
    simp only at cb cs he hn9 hn1
    generalize bytes9R r = y at h91 hn9
    obtain ⟨b9, ok⟩ := y
    refine aw_ofC T_ok 1013 (by kernel_rfl) ?_
    conv => whnf
    split <;> rename_i t1 <;> conv => whnf
    rotate_left
    · have a1 : ¬ (i : Int) < ((R.map Rec.enc).length : Int) := of_decide_eq_false t1
      omega
    split <;> rename_i t2 <;> conv => whnf
    rotate_left
    · have a2 : ¬ (i : Int) < 8 := of_decide_eq_false t2
      omega
    refine ⟨by omega, _, hrow, ?_⟩
    conv => whnf
    refine callU cc (fun _ => rfl) ?_
    conv => whnf
    refine callS cb rfl ?_
    conv => whnf
    refine callS cs rfl ?_
    conv => whnf
    refine AW.cut (fun M : List ByteArray => M.length ≤ 4 + 20 * (i + 1) ∧ okL M) (fun M => [(1, .lf (.ptr 0 0)), (3, .lf (.own 1 M.length)), (4, Go.Rx.I i), (5, .lf (.ptr 2 0)), (6, Sx b), (7, Go.Rx.I e), (8, Go.Rx.I b.size), (9, Go.Rx.I e), (10, Go.Rx.I e), (11, Sx b)]) (fun M => [ask11V R S N, txtB M, recVb r]) [] ?_ ?_
    · cases may
      · cases hn1 rfl
        refine aw_of T_ok (by kernel_rfl) ?_
        conv => whnf
        refine ⟨by omega, _, hrow, ?_⟩
        conv => whnf
        refine callS c9 rfl ?_
        conv => whnf
        exact ⟨L, ⟨by omega, hok⟩, ⟨rfl, rfl, rfl, rfl, rfl, rfl, rfl, rfl, rfl, rfl, trivial⟩, ⟨[], rfl⟩, rfl, rfl⟩
      · obtain ⟨hx, hs9, hz9⟩ := hn9 rfl
        have c91 := h91 rfl
        have cp := hpl rfl
        have hp := hps rfl
        simp only at hx hs9 hz9
        have hb9 : b9 = b := (congrArg Prod.fst hx).symm
        subst hb9
        have hee : e = if ok = true then 0 else 2 := congrArg Prod.snd hx
        change Con P _ _ (Sx (plainS r)) [] at cp
        generalize plainS r = pl at cp hp
        clear hn9 h91 hpl hps hx cb cs ce ck
        refine aw_ofC T_ok 1016 (by kernel_rfl) ?_
        conv => whnf
        refine ⟨by omega, _, hrow, ?_⟩
        conv => whnf
        refine callS c9 rfl ?_
        conv => whnf
        refine ⟨by omega, _, hrow, ?_⟩
        conv => whnf
        refine callS c91 rfl ?_
        conv => whnf
        refine AW.cut (fun _ : Unit => True) (fun _ => [(1, .lf (.ptr 0 0)), (3, .lf (.own 1 L.length)), (4, Go.Rx.I i), (5, .lf (.ptr 2 0)), (6, Sx b9), (7, Go.Rx.I e), (8, Go.Rx.I b9.size), (9, Go.Rx.I e), (10, Go.Rx.I e), (11, Sx b9), (12, Sx b9)]) (fun _ => [ask11V R S N, txtB L, recVb r]) [] (aw_of T_ok (by kernel_rfl) ?_) ?_
        · cases ok
          · have e2 : e = 2 := hee
            subst e2
            have b2 := hz9 rfl
            subst b2
            conv => whnf
            exact ⟨(), trivial, ⟨rfl, rfl, rfl, rfl, rfl, rfl, rfl, rfl, rfl, rfl, rfl, trivial⟩, ⟨[], rfl⟩, rfl, rfl⟩
          · have e2 : e = 0 := hee
            subst e2
            conv => whnf
            exact ⟨(), trivial, ⟨rfl, rfl, rfl, rfl, rfl, rfl, rfl, rfl, rfl, rfl, rfl, trivial⟩, ⟨[], rfl⟩, rfl, rfl⟩
        rintro _ _
        clear hz9 hee
        refine aw_of T_ok (by kernel_rfl) ?_
        conv => whnf
        refine ⟨by omega, _, hrow, ?_⟩
        conv => whnf
        refine callS cp rfl ?_
        conv => whnf
        refine AW.draw T_ok rfl (.one 0 (.one 1 (.one 2 (.one 3 (.one 4 (.one 5 (.one 7 (.one 8 (.one 9 (.one 10 (.pre 11 (listPl [6, 12, 13, 14, 15])))))))))))) (by kernel_rfl) (by kernel_rfl) ?_
        conv => whnf
        refine ⟨by show b9.size + 1 ≤ _; omega, ?_⟩
        conv => whnf
        refine ⟨by show pl.size + 1 ≤ _; omega, ?_⟩
        conv => whnf
        have wl : IntKind.i64.wrap ((pl.size : Int) - 1) = ((pl.size - 1 : Nat) : Int) := by rw [wrapI (by omega)]; omega
        refine ⟨Int.le_refl _, by omega, by omega, ?_⟩
        conv => whnf
        refine callS (frame9_con _) rfl ?_
        conv => whnf
        refine callS (frame9_con _) rfl ?_
        conv => whnf
        refine ⟨rfl, _, .inl rfl, ?_⟩
        conv => whnf
        refine ⟨List.length_map .., by show (L.length + 4) * 16 ≤ _; omega, ?_⟩
        conv => whnf
        obtain ⟨F, hF, hFl, hFo⟩ : ∃ F : List ByteArray, F = [b9, b9 ++ ⟨#[121]⟩, frame (pl ++ ⟨#[0]⟩), frame (pl.extract 0 (IntKind.i64.wrap ((pl.size : Int) - 1)).toNat)] ∧ F.length = 4 ∧ okL F := ⟨_, rfl, rfl, fun s hs => by
          have f1 := frame_le (pl ++ ⟨#[0]⟩)
          have f2 := frame_le (pl.extract 0 (IntKind.i64.wrap ((pl.size : Int) - 1)).toNat)
          have f3 : (b9 ++ ⟨#[121]⟩).size = b9.size + 1 := ByteArray.size_append
          simp only [List.mem_cons, List.not_mem_nil, or_false] at hs
          show s.size ≤ _
          rcases hs with rfl | rfl | rfl | rfl <;> omega⟩
        refine AW.loop (fun p : Nat × List ByteArray => p.1 ≤ 16 ∧ p.2.length = L.length + 4 + p.1 ∧ okL p.2) (fun p => [(1, .lf (.ptr 0 0)), (3, .lf (.own 1 p.2.length)), (4, Go.Rx.I i), (5, .lf (.ptr 2 0)), (6, Sx b9), (7, Go.Rx.I e), (8, Go.Rx.I b9.size), (9, Go.Rx.I e), (10, Go.Rx.I e), (11, Sx b9), (14, Sx pl), (15, Go.Rx.I p.1)]) (fun p => [ask11V R S N, txtB p.2, recVb r]) (fun p => 16 - p.1) [] ?_ ?_
        · refine ⟨(0, L ++ F), ⟨Nat.zero_le _, by rw [List.length_append, hFl]; rfl, okL_app hok hFo⟩, ⟨rfl, ?s, rfl, rfl, rfl, rfl, rfl, rfl, rfl, rfl, rfl, rfl, trivial⟩, ⟨[?r], ?b⟩, rfl, rfl⟩
          case s => exact congrArg (fun n => AV.lf (.own 1 n)) (show L.length + 4 = (L ++ F).length by rw [List.length_append, hFl])
          case b =>
            show _ = [ask11V R S N, Blk.arr _ 1 (strRows (L ++ F)), recVb r] ++ [_]
            rw [rows_app, hF]
            rfl
        rintro ⟨k, M⟩ ⟨hk, hM, hokM⟩
        simp only at hk hM hokM
        have wk : IntKind.i64.wrap ((k : Int) + 1) = ((k + 1 : Nat) : Int) := wrapI (by omega)
        clear hF hFl hFo F
        refine aw_of T_ok (by kernel_rfl) ?_
        conv => whnf
        split <;> rename_i t3 <;> conv => whnf
        rotate_left
        · have a3 : ¬ (k : Int) < 16 := of_decide_eq_false t3
          refine ⟨M, ⟨by omega, hokM⟩, ⟨rfl, rfl, rfl, rfl, rfl, rfl, rfl, rfl, rfl, rfl, trivial⟩, ⟨[], rfl⟩, rfl, rfl⟩
        have a3 : (k : Int) < 16 := of_decide_eq_true t3
        refine .inr ⟨by omega, ?_⟩
        conv => whnf
        have hbl : (byteRows pl).length = pl.size := by simp [byteRows]
        refine ⟨hbl, ?_⟩
        conv => whnf
        have w1 : IntKind.i64.wrap ((k : Int) * pl.size) = (k * pl.size : Nat) := by
          have : k * pl.size ≤ 16 * 8000 := Nat.mul_le_mul (by omega) (by omega)
          rw [wrapI (by rw [← Int.natCast_mul]; omega), Int.natCast_mul]
        have hkp : k * pl.size ≤ 16 * 8000 := Nat.mul_le_mul (by omega) (by omega)
        refine ⟨by rw [w1]; omega, by decide, by rw [w1]; omega, ?_⟩
        conv => whnf
        refine ⟨hbl, ?_⟩
        conv => whnf
        generalize IntKind.i64.wrap (IntKind.i64.wrap ((k : Int) * pl.size) / 16 + (i : Int)) = at0
        have hwi := within_lt (i := at0) (n := (pl.size : Int)) (by omega)
        refine callS (within_con at0 pl.size (by omega)) rfl ?_
        conv => whnf
        generalize within at0 pl.size = ix at hwi
        obtain ⟨ix, rfl⟩ : ∃ n : Nat, ix = (n : Int) := ⟨ix.toNat, by omega⟩
        have hix : ix < pl.data.toList.length := by show ix < pl.size; omega
        have hrw : (byteRows pl)[ix]? = some [PV.sc (.int .u8 (pl.data.toList[ix]).toNat)] := by
          simp only [byteRows, List.getElem?_map, List.getElem?_eq_getElem hix, Option.map_some]
        refine ⟨hbl, by omega, by omega, ?_⟩
        conv => whnf
        refine ⟨rfl, hbl, _, hrw, ?_⟩
        conv => whnf
        refine .inl ⟨by omega, by decide, by omega, ?_⟩
        conv => whnf
        refine ⟨hbl, by omega, by omega, ?_⟩
        conv => whnf
        refine ⟨rfl, hbl, _, hrw, ?_⟩
        conv => whnf
        refine ⟨by decide, ?_⟩
        conv => whnf
        obtain ⟨x, hx⟩ : ∃ x : Int, x = ((pl.data.toList[ix]).toNat : Int) + IntKind.u8.wrap (IntKind.i64.wrap (1 + (k : Int) % 3)) := ⟨_, rfl⟩
        have hzr : (byteRows pl).set ix [PV.sc (.int .u8 (IntKind.u8.wrap x))] = byteRows (bytesOf (pl.data.toList.set ix (byteZ x))) := rows_set _ _ _
        have hzs : (bytesOf (pl.data.toList.set ix (byteZ x))).size = pl.size := by rw [bytesOf_size, List.length_set]; rfl
        generalize bytesOf (pl.data.toList.set ix (byteZ x)) = z at hzr hzs
        subst hx
        refine ⟨by rw [List.length_set]; exact hbl, z, hzr, ?_⟩
        conv => whnf
        refine callS (frame9_con z) rfl ?_
        conv => whnf
        have fz := frame_le z
        generalize frame z = fr at fz
        refine ⟨rfl, _, .inl rfl, ?_⟩
        conv => whnf
        refine ⟨List.length_map .., by show (M.length + 1) * 16 ≤ _; omega, ?_⟩
        conv => whnf
        refine ⟨(k + 1, M ++ [fr]), ⟨⟨by omega, by rw [List.length_append, hM]; simp only [List.length_cons, List.length_nil]; omega, okL_app hokM (fun s hs => by rw [List.mem_singleton.1 hs]; show fr.size ≤ _; omega)⟩, by show 16 - (k + 1) < 16 - k; omega⟩, ⟨rfl, ?ss, rfl, rfl, rfl, rfl, rfl, rfl, rfl, rfl, rfl, congrArg Go.Rx.I wk, trivial⟩, ⟨[?q1, ?q2], ?bb⟩, rfl, rfl⟩
        case ss => exact congrArg (fun n => AV.lf (.own 1 n)) (show M.length + 1 = (M ++ [fr]).length by rw [List.length_append]; rfl)
        case bb =>
          show _ = [ask11V R S N, Blk.arr _ 1 (strRows (M ++ [fr])), recVb r] ++ [_, _]
          rw [rows_app]
          rfl
    rintro M ⟨hM, hokM⟩
    refine aw_of T_ok (by kernel_rfl) ?_
    conv => whnf
    refine AW.draw T_ok rfl (listPl [0, 4, 5, 6, 7, 8, 1, 2, 3, 9, 10, 11, 12, 14, 13, 15, 16, 17, 18, 19, 20, 21, 22, 23, 25, 24, 26, 27, 28, 29, 30, 31, 32, 33, 34, 35, 36, 37, 38, 39, 40, 41, 42, 43]) (by kernel_rfl) (by kernel_rfl) ?_
    conv => whnf
    refine ⟨by omega, _, hrow, ?_⟩
    conv => whnf
    refine callS ck rfl ?_
    conv => whnf
    refine callS (num_con _ (by cases may <;> decide)) rfl ?_
    conv => whnf
    refine callS c9 rfl ?_
    conv => whnf
    split <;> rename_i t1 <;> conv => whnf
    · have : (((if may = true then (0 : Int) else 1) == 0) != may) = true := t1
      rw [chk_ok] at this
      cases this
    refine callS (num_con e he) rfl ?_
    conv => whnf
    split <;> rename_i t2 <;> conv => whnf
    · rw [neq_self] at t2
      cases t2
    split <;> rename_i t3 <;> conv => whnf
    · have : (!(b == b)) = true := t3
      simp at this
    refine callS (num_con e he) rfl ?_
    conv => whnf
    split <;> rename_i t4 <;> conv => whnf
    · rw [neq_self] at t4
      cases t4
    split <;> rename_i t5 <;> conv => whnf
    · rw [neq_self] at t5
      cases t5
    refine ⟨by omega, _, hrow, ?_⟩
    conv => whnf
    refine callS ce rfl ?_
    conv => whnf
    exact ⟨(i + 1, M), ⟨⟨by omega, by omega, hM, hokM⟩, by show R.length - (i + 1) < R.length - i; omega⟩, ⟨rfl, rfl, congrArg Go.Rx.I wi, trivial⟩, ⟨[_], rfl⟩, rfl, rfl⟩
  rintro L1 ⟨hL1, hok1⟩
  have hLm : (strRows L1).length = L1.length := List.length_map ..
  refine aw_ofC T_ok 1029 (by kernel_rfl) ?_
  conv => whnf
  refine AW.cut (fun _ : Unit => True) (fun _ => [(1, .lf (.ptr 0 0))]) (fun _ => [ask11V R S N]) [] (aw_of T_ok (by kernel_rfl) ?_) ?_
  · conv => whnf
    refine AW.loop (fun k : Nat => k ≤ L1.length) (fun k => [(1, .lf (.ptr 0 0)), (3, .lf (.own 1 L1.length)), (18, Go.Rx.I k)]) (fun _ => [ask11V R S N, txtB L1]) (fun k => L1.length - k) [] ?_ ?_
    · exact ⟨0, Nat.zero_le _, ⟨rfl, rfl, rfl, trivial⟩, ⟨[], rfl⟩, rfl, rfl⟩
    intro k hk
    have wk : IntKind.i64.wrap ((k : Int) + 1) = ((k + 1 : Nat) : Int) := wrapI (by omega)
    refine aw_of T_ok (by kernel_rfl) ?_
    conv => whnf
    refine ⟨hLm, ?_⟩
    conv => whnf
    split <;> rename_i t1 <;> conv => whnf
    rotate_left
    · exact ⟨(), trivial, ⟨rfl, trivial⟩, ⟨[_], rfl⟩, rfl, rfl⟩
    have hkl : k < L1.length := by have : (k : Int) < (L1.length : Int) := of_decide_eq_true t1
                                   omega
    have hrow : (strRows L1)[k]? = some [pS L1[k]] := by simp [hkl]
    have hs := hok1 _ (List.getElem_mem hkl)
    generalize L1[k] = s at hrow hs
    have ct := take_con s hs
    have cu := unpack_con s hs
    obtain ⟨u1, u2, u3⟩ := unp_take s
    have htl : (takeR s).1.steps.length * 80 ≤ 140737488351232 := by have := take_len hs; omega
    rw [u1] at cu
    generalize takeR s = x at ct u1 u2 u3 cu htl
    obtain ⟨r, rest, e⟩ := x
    simp only at ct u1 u2 u3 cu htl
    generalize unpR s = y at cu u1 u2 u3
    obtain ⟨r', rest', ok⟩ := y
    simp only at cu u1 u2 u3
    subst u1 u2
    have ce := eqRec_con r' r' htl
    rw [decide_eq_true rfl] at ce
    refine ⟨hLm, by omega, by omega, ?_⟩
    conv => whnf
    refine ⟨rfl, hLm, _, hrow, ?_⟩
    conv => whnf
    refine ⟨_, _, _, wk_refl _, ct, .inr ?_⟩
    conv => whnf
    refine ⟨hLm, by omega, by omega, ?_⟩
    conv => whnf
    refine ⟨rfl, hLm, _, hrow, ?_⟩
    conv => whnf
    refine ⟨_, _, _, wk_refl _, cu, .inr ?_⟩
    conv => whnf
    have hrl : (r'.steps.map Step.enc).length = r'.steps.length := List.length_map ..
    cases ok
    · have he : e = 10 := u3
      subst he
      refine callS (num_con 10 (by decide)) rfl ?_
      conv => whnf
      refine callS (num_con 10 (by decide)) rfl ?_
      conv => whnf
      refine ⟨hrl, ?_⟩
      conv => whnf
      refine ⟨hrl, ?_⟩
      conv => whnf
      refine callS ce rfl ?_
      conv => whnf
      split <;> rename_i t2 <;> conv => whnf
      · have : (!(rest' == rest')) = true := t2
        simp at this
      refine ⟨[2], _, _, _, _, _, nodupB_ok rfl, rfl, rfl, wk_refl _, spoilSteps_con r'.steps htl, ?_⟩
      conv => whnf
      exact ⟨k + 1, ⟨hkl, by omega⟩, ⟨rfl, rfl, congrArg Go.Rx.I wk, trivial⟩, ⟨_, rfl⟩, rfl, rfl⟩
    · have he : e = 0 := u3
      subst he
      refine callS (num_con 0 (by decide)) rfl ?_
      conv => whnf
      refine ⟨hrl, ?_⟩
      conv => whnf
      refine ⟨hrl, ?_⟩
      conv => whnf
      refine callS ce rfl ?_
      conv => whnf
      split <;> rename_i t2 <;> conv => whnf
      · have : (!(rest' == rest')) = true := t2
        simp at this
      refine ⟨[2], _, _, _, _, _, nodupB_ok rfl, rfl, rfl, wk_refl _, spoilSteps_con r'.steps htl, ?_⟩
      conv => whnf
      exact ⟨k + 1, ⟨hkl, by omega⟩, ⟨rfl, rfl, congrArg Go.Rx.I wk, trivial⟩, ⟨_, rfl⟩, rfl, rfl⟩
  rintro _ _
  refine aw_of T_ok (by kernel_rfl) ?_
  conv => whnf
  refine AW.loop (fun k : Nat => k ≤ 8) (fun k => [(1, .lf (.ptr 0 0)), (25, Go.Rx.I ((k : Int) - 1))]) (fun _ => [ask11V R S N]) (fun k => 8 - k) [] ?_ ?_
  · exact ⟨0, Nat.zero_le _, ⟨rfl, rfl, trivial⟩, ⟨[], rfl⟩, rfl, rfl⟩
  intro k hk
  have wk : IntKind.i64.wrap ((k : Int) - 1 + 1) = ((k + 1 : Nat) : Int) - 1 := by rw [wrapI (by omega)]; omega
  have cr := reserve_con ((k : Int) - 1) (by omega)
  have cbt := between_con ((k : Int) - 1) 1 5
  refine aw_of T_ok (by kernel_rfl) ?_
  conv => whnf
  split <;> rename_i t1 <;> conv => whnf
  rotate_left
  · refine callS wakes11_con rfl ?_
    conv => whnf
    exact finB ⟨rfl⟩
  have hk7 : (k : Int) - 1 ≤ 6 := of_decide_eq_true t1
  by_cases hb : 1 ≤ (k : Int) - 1 ∧ (k : Int) - 1 ≤ 5
  · rw [reserveP, if_pos hb] at cr
    rw [decide_eq_true hb.1, decide_eq_true hb.2] at cbt
    refine callS cr rfl ?_
    conv => whnf
    refine callS cbt rfl ?_
    conv => whnf
    refine callS (num_con 0 (by decide)) rfl ?_
    conv => whnf
    split <;> rename_i t2 <;> conv => whnf
    · have e : IntKind.i64.wrap (24 * IntKind.i64.wrap (IntKind.i64.wrap (3 * ((k : Int) - 1)) + 2)) = 24 * (3 * ((k : Int) - 1) + 2) := by
        rw [wrapI (n := 3 * ((k : Int) - 1)) (by omega), wrapI (n := 3 * ((k : Int) - 1) + 2) (by omega), wrapI (by omega)]
      have : (24 * (3 * ((k : Int) - 1) + 2) != IntKind.i64.wrap (24 * IntKind.i64.wrap (IntKind.i64.wrap (3 * ((k : Int) - 1)) + 2))) = true := t2
      rw [e, neq_self] at this
      cases this
    · exact ⟨k + 1, ⟨by omega, by omega⟩, ⟨rfl, congrArg Go.Rx.I wk, trivial⟩, ⟨[], rfl⟩, rfl, rfl⟩
  · rw [reserveP, if_neg hb] at cr
    have hbb : (decide (1 ≤ (k : Int) - 1) && decide ((k : Int) - 1 ≤ 5)) = false := by
      rw [Bool.and_eq_false_iff, decide_eq_false_iff_not, decide_eq_false_iff_not]
      omega
    rw [hbb] at cbt
    refine callS cr rfl ?_
    conv => whnf
    refine callS cbt rfl ?_
    conv => whnf
    refine callS (num_con 1 (by decide)) rfl ?_
    conv => whnf
    exact ⟨k + 1, ⟨by omega, by omega⟩, ⟨rfl, congrArg Go.Rx.I wk, trivial⟩, ⟨[], rfl⟩, rfl, rfl⟩
end Go.Proofs.YtdifjeaplceadaaGreat.Rx

/- Records of a kind, of each number and saga: the law's body. -/
set_option linter.unusedVariables false
set_option linter.unusedSimpArgs false
namespace Go.Rx
theorem pick4 {a b c d : ByteArray} (h : a.size ≤ 10 ∧ b.size ≤ 10 ∧ c.size ≤ 10 ∧ d.size ≤ 10) (i : Nat) : ∃ s : ByteArray, (chunk 1 4 [pS a, pS b, pS c, pS d])[((i : Int) % 4).toNat]? = some [pS s] ∧ s.size ≤ 10 := by
  have e : ((i : Int) % 4).toNat = i % 4 := by omega
  rw [e]
  have : i % 4 = 0 ∨ i % 4 = 1 ∨ i % 4 = 2 ∨ i % 4 = 3 := by omega
  rcases this with h1 | h1 | h1 | h1 <;> rw [h1]
  · exact ⟨a, rfl, h.1⟩
  · exact ⟨b, rfl, h.2.1⟩
  · exact ⟨c, rfl, h.2.2.1⟩
  · exact ⟨d, rfl, h.2.2.2⟩
abbrev keyK : ByteArray := ⟨#[107]⟩
abbrev bodyB : ByteArray := ⟨#[98]⟩
def okR (L : List Rec) : Prop := ∀ r ∈ L, r.Ok
theorem okR_snoc {L : List Rec} {r : Rec} (h : okR L) (k : r.Ok) : okR (L ++ [r]) := fun x hx => by
  rcases List.mem_append.1 hx with h1 | h1
  · exact h x h1
  · rw [List.mem_singleton.1 h1]; exact k
theorem none11 (k : Int) : bytesR ⟨k, 0, 0, ⟨#[]⟩, ⟨#[]⟩, []⟩ = (⟨#[]⟩, 1) := by
  rw [bytesR, if_neg]
  rw [recB]
  simp
theorem ask_sub {L : List Rec} (hl : L.length ≤ 40) (h : okR L) (a b : Nat) : Ask11 ((L.take b).drop a) [] := by
  refine ⟨?_, fun r hr => h r (List.mem_of_mem_take (List.mem_of_mem_drop hr)), by decide, fun s hs => (List.not_mem_nil hs).elim⟩
  rw [List.length_drop, List.length_take]; omega
end Go.Rx
namespace Go.Proofs.YtdifjeaplceadaaGreat.Rx
open Go.Rx Go.Proofs Go.Proofs.YtdifjeaplceadaaGreat.RxB
abbrev recsB (L : List Rec) : Blk := .arr 33 6 (L.map Rec.enc)
abbrev qB (L : List Rec) (S : List ByteArray) (N : List Int) : Blk := .var [.own 2 L.length, .pv (encStrs S), .pv (encInts N)]
abbrev stB (T : List Step) : Blk := .arr 37 6 (T.map Step.enc)
abbrev rcB (k id n : Int) (key body : ByteArray) (m : Nat) : Blk := .var [.pv (pI k), .pv (pI id), .pv (pI n), .pv (pS key), .pv (pS body), .own 4 m]
theorem qB_eq (L : List Rec) (r : Rec) (S : List ByteArray) (N : List Int) (a : Blk) (z : List Blk) :
    [a, .var [.own 2 (L.length + 1), .pv (encStrs S), .pv (encInts N)], .arr 33 6 (L.map Rec.enc ++ [r.enc])] ++ z = [a, qB (L ++ [r]) S N, recsB (L ++ [r])] ++ z := by
  rw [qB, recsB, List.length_append, List.map_append]; rfl
theorem stepB_eq {T : List Step} {st : Step} {nm s1 s2 w : ByteArray} {sv n k id : Int} (hst : st = ⟨nm, sv, s1, s2, w, n⟩) (a b c : Blk) (z : List Blk) :
    [a, b, c, .var [.pv (pI k), .pv (pI id), .pv (pI 0), .pv (pS keyK), .pv (pS bodyB), .own 4 (T.length + 1)], .arr 37 6 (T.map Step.enc ++ [[pS nm, pI sv, pS s1, pS s2, pS w, pI n]])] ++ z = [a, b, c, rcB k id 0 keyK bodyB (T ++ [st]).length, stB (T ++ [st])] ++ z := by
  rw [rcB, stB, List.length_append, List.map_append, hst]; rfl
set_option maxRecDepth 100000 in
set_option maxHeartbeats 8000000 in
theorem kind11_con (k : Int) (hk : 1 ≤ k ∧ k ≤ 6) (R : List Rec) (S : List ByteArray) (N : List Int) (h : Ask11 R S) : Con P 9 [encAsk11 R S N, Go.Rx.I k] (Bl true) [] := by
  have hRm : (R.map Rec.enc).length = R.length := List.length_map ..
  have hlen := h.len
  have hstr := h.strs
  refine Con.of T_ok Tryz.func9 rfl (by kernel_rfl) (by kernel_rfl) (aw_ofC T_ok 1002 (by kernel_rfl) ?_)
  conv => whnf
  refine AW.cut (fun L : List Rec => L.length ≤ 4 ∧ okR L) (fun L => [(1, Go.Rx.I k), (2, .lf (.ptr 0 0)), (5, .lf (.ptr 1 0))]) (fun L => [ask11V R S N, qB L S N, recsB L]) [] (aw_of T_ok (by kernel_rfl) ?_) ?_
  · conv => whnf
    refine AW.loop (fun p : Nat × List Rec => p.1 ≤ R.length ∧ p.1 ≤ 4 ∧ p.2.length ≤ p.1 ∧ okR p.2) (fun p => [(1, Go.Rx.I k), (2, .lf (.ptr 0 0)), (5, .lf (.ptr 1 0)), (6, Go.Rx.I p.1)]) (fun p => [ask11V R S N, qB p.2 S N, recsB p.2]) (fun p => R.length - p.1) [.cell 1 0 33 6] ?_ ?_
    · exact ⟨rfl, (0, []), ⟨Nat.zero_le _, Nat.zero_le _, Nat.le_refl _, fun r hr => (List.not_mem_nil hr).elim⟩, ⟨rfl, rfl, rfl, rfl, trivial⟩, ⟨[], rfl⟩, rfl, rfl⟩
    rintro ⟨i, L⟩ ⟨hi, hi4, hL, hok⟩
    simp only at hi hi4 hL hok
    have wi : IntKind.i64.wrap ((i : Int) + 1) = ((i + 1 : Nat) : Int) := wrapI (by omega)
    refine aw_of T_ok (by kernel_rfl) ?_
    conv => whnf
    split <;> rename_i t1 <;> conv => whnf
    rotate_left
    · exact ⟨L, ⟨by omega, hok⟩, ⟨rfl, rfl, rfl, trivial⟩, ⟨[], rfl⟩, rfl, rfl⟩
    have a1 : (i : Int) < ((R.map Rec.enc).length : Int) := of_decide_eq_true t1
    split <;> rename_i t2 <;> conv => whnf
    rotate_left
    · exact ⟨L, ⟨by omega, hok⟩, ⟨rfl, rfl, rfl, trivial⟩, ⟨[], rfl⟩, rfl, rfl⟩
    have a2 : (i : Int) < 4 := of_decide_eq_true t2
    have hiR : i < R.length := by omega
    have hrow : (R.map Rec.enc)[i]? = some R[i].enc := by simp [hiR]
    have hr := h.each _ (List.getElem_mem hiR)
    generalize R[i] = r at hrow hr
    refine ⟨by omega, _, hrow, ?_⟩
    conv => whnf
    refine callU (copyRec_con r hr) (fun _ => rfl) ?_
    conv => whnf
    refine ⟨rfl, _, .inl rfl, ?_⟩
    conv => whnf
    refine ⟨List.length_map .., by show (L.length + 1) * 80 ≤ _; omega, ?_⟩
    conv => whnf
    refine ⟨(i + 1, L ++ [⟨k, r.id, r.n, r.key, r.body, r.steps⟩]), ⟨⟨by omega, by omega, by rw [List.length_append]; simp only [List.length_cons, List.length_nil]; omega, okR_snoc hok ⟨hr.key, hr.body, hr.steps⟩⟩, by show R.length - (i + 1) < R.length - i; omega⟩, ⟨rfl, rfl, rfl, congrArg Go.Rx.I wi, trivial⟩, ⟨[?r1, ?r2], ?e⟩, rfl, rfl⟩
    case e => exact qB_eq L ⟨k, r.id, r.n, r.key, r.body, r.steps⟩ S N _ [_, _]
  rintro L0 ⟨hL0, hok0⟩
  refine aw_ofC T_ok 1008 (by kernel_rfl) ?_
  conv => whnf
  refine AW.cut (fun L : List Rec => L.length ≤ 40 ∧ okR L) (fun L => [(1, Go.Rx.I k), (2, .lf (.ptr 0 0)), (5, .lf (.ptr 1 0))]) (fun L => [ask11V R S N, qB L S N, recsB L]) [] (aw_of T_ok (by kernel_rfl) ?_) ?_
  · conv => whnf
    refine AW.loop (fun p : Nat × List Rec => p.1 ≤ 4 ∧ p.2.length ≤ 4 + 7 * p.1 ∧ okR p.2) (fun p => [(1, Go.Rx.I k), (2, .lf (.ptr 0 0)), (5, .lf (.ptr 1 0)), (8, Go.Rx.I (7 * (p.1 : Int) - 1))]) (fun p => [ask11V R S N, qB p.2 S N, recsB p.2]) (fun p => 4 - p.1) [] ?_ ?_
    · exact ⟨(0, L0), ⟨Nat.zero_le _, hL0, hok0⟩, ⟨rfl, rfl, rfl, rfl, trivial⟩, ⟨[], rfl⟩, rfl, rfl⟩
    rintro ⟨j, L1⟩ ⟨hj, hL1, hok1⟩
    simp only at hj hL1 hok1
    have wj : IntKind.i64.wrap (7 * (j : Int) - 1 + 7) = 7 * ((j + 1 : Nat) : Int) - 1 := by rw [wrapI (by omega)]; omega
    refine aw_of T_ok (by kernel_rfl) ?_
    conv => whnf
    split <;> rename_i t1 <;> conv => whnf
    rotate_left
    · exact ⟨L1, ⟨by omega, hok1⟩, ⟨rfl, rfl, rfl, trivial⟩, ⟨[], rfl⟩, rfl, rfl⟩
    have a1 : 7 * (j : Int) - 1 ≤ 21 := of_decide_eq_true t1
    refine AW.loop (fun p : Nat × List Rec => p.1 ≤ 7 ∧ p.2.length ≤ 4 + 7 * j + p.1 ∧ okR p.2) (fun p => [(1, Go.Rx.I k), (2, .lf (.ptr 0 0)), (5, .lf (.ptr 1 0)), (8, Go.Rx.I (7 * (j : Int) - 1)), (9, Go.Rx.I ((p.1 : Int) - 1))]) (fun p => [ask11V R S N, qB p.2 S N, recsB p.2]) (fun p => 7 - p.1) [] ?_ ?_
    · exact ⟨(0, L1), ⟨Nat.zero_le _, hL1, hok1⟩, ⟨rfl, rfl, rfl, rfl, rfl, trivial⟩, ⟨[], rfl⟩, rfl, rfl⟩
    rintro ⟨m, L⟩ ⟨hm, hL, hok⟩
    simp only at hm hL hok
    have wm : IntKind.i64.wrap ((m : Int) - 1 + 1) = ((m + 1 : Nat) : Int) - 1 := by rw [wrapI (by omega)]; omega
    refine aw_ofC T_ok 1015 (by kernel_rfl) ?_
    conv => whnf
    split <;> rename_i t2 <;> conv => whnf
    rotate_left
    · exact ⟨(j + 1, L), ⟨⟨by omega, by show L.length ≤ 4 + 7 * (j + 1); omega, hok⟩, by show 4 - (j + 1) < 4 - j; omega⟩, ⟨rfl, rfl, rfl, congrArg Go.Rx.I wj, trivial⟩, ⟨[], rfl⟩, rfl, rfl⟩
    have a2 : (m : Int) - 1 ≤ 5 := of_decide_eq_true t2
    refine AW.cutS (fun x : Int × ByteArray × ByteArray × List Step => x.2.1.size ≤ 1 ∧ x.2.2.1.size ≤ 1 ∧ x.2.2.2.length ≤ 6 ∧ ∀ y ∈ x.2.2.2, y.Ok)
      (fun _ => [(1, Go.Rx.I k), (2, .lf (.ptr 0 0)), (5, .lf (.ptr 1 0)), (8, Go.Rx.I (7 * (j : Int) - 1)), (9, Go.Rx.I ((m : Int) - 1)), (10, .lf (.ptr 3 0))])
      (fun x => [ask11V R S N, qB L S N, recsB L, rcB k (7 * (j : Int) - 1) x.1 x.2.1 x.2.2.1 x.2.2.2.length, stB x.2.2.2]) (aw_of T_ok (by kernel_rfl) ?_) ?_
    · conv => whnf
      split <;> rename_i t3 <;> conv => whnf
      · refine AW.loop (fun p : Nat × List Step => p.1 ≤ 6 ∧ p.2.length = p.1 ∧ ∀ y ∈ p.2, y.Ok) (fun p => [(1, Go.Rx.I k), (2, .lf (.ptr 0 0)), (5, .lf (.ptr 1 0)), (8, Go.Rx.I (7 * (j : Int) - 1)), (9, Go.Rx.I ((m : Int) - 1)), (10, .lf (.ptr 3 0)), (11, Go.Rx.I p.1)])
          (fun p => [ask11V R S N, qB L S N, recsB L, rcB k (7 * (j : Int) - 1) 0 keyK bodyB p.2.length, stB p.2]) (fun p => 6 - p.1) [.cell 3 5 37 6] ?_ ?_
        · exact ⟨rfl, (0, []), ⟨Nat.zero_le _, rfl, fun r hr => (List.not_mem_nil hr).elim⟩, ⟨rfl, rfl, rfl, rfl, rfl, rfl, rfl, trivial⟩, ⟨[], rfl⟩, rfl, rfl⟩
        rintro ⟨i, T⟩ ⟨hi, hT, hTok⟩
        simp only at hi hT hTok
        have wi : IntKind.i64.wrap ((i : Int) + 1) = ((i + 1 : Nat) : Int) := wrapI (by omega)
        refine aw_of T_ok (by kernel_rfl) ?_
        conv => whnf
        split <;> rename_i t4 <;> conv => whnf
        rotate_left
        · refine ⟨[0, 1, 2, 3, 4], [(1, Go.Rx.I k), (2, .lf (.ptr 0 0)), (5, .lf (.ptr 1 0)), (8, Go.Rx.I (7 * (j : Int) - 1)), (9, Go.Rx.I ((m : Int) - 1)), (10, .lf (.ptr 3 0))], ⟨rfl, rfl, rfl, rfl, rfl, rfl, trivial⟩, rfl, _, _, rfl, rfl, [], ?_⟩
          exact ⟨(0, keyK, bodyB, T), ⟨Nat.le_refl 1, Nat.le_refl 1, by show T.length ≤ 6; omega, hTok⟩, ⟨rfl, rfl, rfl, rfl, rfl, rfl, trivial⟩, ⟨[], rfl⟩, rfl, rfl⟩
        have a4 : (i : Int) ≤ (m : Int) - 1 := of_decide_eq_true t4
        have hTm : (T.map Step.enc).length = T.length := List.length_map ..
        obtain ⟨s1, hs1, hz1⟩ := pick4 (a := ⟨#[99, 114, 101, 100, 105, 116]⟩) (b := ⟨#[116, 97, 107, 101]⟩) (c := ⟨#[98, 111, 111, 107]⟩) (d := ⟨#[114, 101, 99, 97, 108, 108]⟩) (by decide) i
        obtain ⟨s2, hs2, hz2⟩ := pick4 (a := ⟨#[100, 101, 98, 105, 116]⟩) (b := ⟨#[112, 117, 116]⟩) (c := ⟨#[99, 97, 110, 99, 101, 108]⟩) (d := ⟨#[115, 101, 110, 100]⟩) (by decide) i
        have hm4 : 0 ≤ (i : Int) % 4 ∧ (i : Int) % 4 < ((4 : Nat) : Int) := by omega
        have hz : [[PV.sc (.int .u8 (IntKind.u8.wrap (IntKind.i64.wrap (97 + (i : Int)))))]] = byteRows (bytesOf [byteZ (IntKind.i64.wrap (97 + (i : Int)))]) := by rw [byteZ_wrap]; rfl
        have hnm : (bytesOf [byteZ (IntKind.i64.wrap (97 + (i : Int)))]).size = 1 := rfl
        generalize bytesOf [byteZ (IntKind.i64.wrap (97 + (i : Int)))] = nm at hz hnm
        obtain ⟨st, hst⟩ : ∃ st : Step, st = ⟨nm, IntKind.i64.wrap (1 + (i : Int) % 4), s1, s2, ⟨#[119]⟩, IntKind.i64.wrap ((i : Int) - 2)⟩ := ⟨_, rfl⟩
        have hI' : i + 1 ≤ 6 ∧ (T ++ [st]).length = i + 1 ∧ ∀ y ∈ T ++ [st], y.Ok := ⟨by omega, by rw [List.length_append, hT]; rfl, fun y hy => by
          rcases List.mem_append.1 hy with h1 | h1
          · exact hTok y h1
          · rw [List.mem_singleton.1 h1, hst]
            exact ⟨by show nm.size ≤ _; omega, by show s1.size ≤ _; omega, by show s2.size ≤ _; omega, by show (1 : Nat) ≤ _; omega⟩⟩
        refine AW.draw T_ok rfl (.one 0 (.one 1 (.one 2 (.one 3 (.one 4 (.one 7 (.one 8 (.one 9 (.one 11 (.one 12 (.one 16 (.one 17 (.one 20 (.one 21 (.three 5 (.one 6 (.two 10 (listPl [13, 14, 15, 18, 19, 22, 23, 24, 25, 26]) 15 (listPl [18, 19, 10, 13, 14, 22, 23, 24, 25, 26])))
          10 (.one 13 (.one 14 (.two 5 (listPl [6, 15, 18, 19, 22, 23, 24, 25, 26]) 15 (listPl [18, 19, 5, 6, 22, 23, 24, 25, 26])))) 15 (.one 18 (.one 19 (.two 5 (listPl [6, 10, 13, 14, 22, 23, 24, 25, 26]) 10 (listPl [13, 14, 5, 6, 22, 23, 24, 25, 26]))))))))))))))))))) (by kernel_rfl) (by kernel_rfl) ?_
        conv => whnf
        refine .inl ⟨by omega, by decide, by omega, ?_⟩
        conv => whnf
        refine .inl ⟨by omega, by decide, by omega, ?_⟩
        conv => whnf
        refine .inl ⟨by omega, by decide, by omega, ?_⟩
        conv => whnf
        refine ⟨?_, ?_, ?_⟩ <;> conv => whnf
        · refine ⟨rfl, _, hz, ?_⟩
          conv => whnf
          refine ⟨?_, ?_⟩ <;> conv => whnf
          · refine ⟨rfl, hm4.1, hm4.2, ?_⟩
            conv => whnf
            refine ⟨rfl, rfl, _, hs1, ?_⟩
            conv => whnf
            refine ⟨rfl, hm4.1, hm4.2, ?_⟩
            conv => whnf
            refine ⟨rfl, rfl, _, hs2, ?_⟩
            conv => whnf
            refine ⟨rfl, _, .inl rfl, ?_⟩
            conv => whnf
            refine ⟨hTm, by show (T.length + 1) * 80 ≤ _; omega, ?_⟩
            conv => whnf
            refine ⟨(i + 1, T ++ [st]), ⟨hI', by show 6 - (i + 1) < 6 - i; omega⟩, ⟨rfl, rfl, rfl, rfl, rfl, rfl, congrArg Go.Rx.I wi, trivial⟩, ⟨[?a00, ?b00, ?c00, ?d00], ?e00⟩, rfl, rfl⟩
            case e00 => exact stepB_eq hst _ _ _ [_, _, _, _]
          · refine ⟨rfl, hm4.1, hm4.2, ?_⟩
            conv => whnf
            refine ⟨rfl, rfl, _, hs2, ?_⟩
            conv => whnf
            refine ⟨rfl, hm4.1, hm4.2, ?_⟩
            conv => whnf
            refine ⟨rfl, rfl, _, hs1, ?_⟩
            conv => whnf
            refine ⟨rfl, _, .inl rfl, ?_⟩
            conv => whnf
            refine ⟨hTm, by show (T.length + 1) * 80 ≤ _; omega, ?_⟩
            conv => whnf
            refine ⟨(i + 1, T ++ [st]), ⟨hI', by show 6 - (i + 1) < 6 - i; omega⟩, ⟨rfl, rfl, rfl, rfl, rfl, rfl, congrArg Go.Rx.I wi, trivial⟩, ⟨[?a01, ?b01, ?c01, ?d01], ?e01⟩, rfl, rfl⟩
            case e01 => exact stepB_eq hst _ _ _ [_, _, _, _]
        · refine ⟨rfl, hm4.1, hm4.2, ?_⟩
          conv => whnf
          refine ⟨rfl, rfl, _, hs1, ?_⟩
          conv => whnf
          refine ⟨?_, ?_⟩ <;> conv => whnf
          · refine ⟨rfl, _, hz, ?_⟩
            conv => whnf
            refine ⟨rfl, hm4.1, hm4.2, ?_⟩
            conv => whnf
            refine ⟨rfl, rfl, _, hs2, ?_⟩
            conv => whnf
            refine ⟨rfl, _, .inl rfl, ?_⟩
            conv => whnf
            refine ⟨hTm, by show (T.length + 1) * 80 ≤ _; omega, ?_⟩
            conv => whnf
            refine ⟨(i + 1, T ++ [st]), ⟨hI', by show 6 - (i + 1) < 6 - i; omega⟩, ⟨rfl, rfl, rfl, rfl, rfl, rfl, congrArg Go.Rx.I wi, trivial⟩, ⟨[?a10, ?b10, ?c10, ?d10], ?e10⟩, rfl, rfl⟩
            case e10 => exact stepB_eq hst _ _ _ [_, _, _, _]
          · refine ⟨rfl, hm4.1, hm4.2, ?_⟩
            conv => whnf
            refine ⟨rfl, rfl, _, hs2, ?_⟩
            conv => whnf
            refine ⟨rfl, _, hz, ?_⟩
            conv => whnf
            refine ⟨rfl, _, .inl rfl, ?_⟩
            conv => whnf
            refine ⟨hTm, by show (T.length + 1) * 80 ≤ _; omega, ?_⟩
            conv => whnf
            refine ⟨(i + 1, T ++ [st]), ⟨hI', by show 6 - (i + 1) < 6 - i; omega⟩, ⟨rfl, rfl, rfl, rfl, rfl, rfl, congrArg Go.Rx.I wi, trivial⟩, ⟨[?a11, ?b11, ?c11, ?d11], ?e11⟩, rfl, rfl⟩
            case e11 => exact stepB_eq hst _ _ _ [_, _, _, _]
        · refine ⟨rfl, hm4.1, hm4.2, ?_⟩
          conv => whnf
          refine ⟨rfl, rfl, _, hs2, ?_⟩
          conv => whnf
          refine ⟨?_, ?_⟩ <;> conv => whnf
          · refine ⟨rfl, _, hz, ?_⟩
            conv => whnf
            refine ⟨rfl, hm4.1, hm4.2, ?_⟩
            conv => whnf
            refine ⟨rfl, rfl, _, hs1, ?_⟩
            conv => whnf
            refine ⟨rfl, _, .inl rfl, ?_⟩
            conv => whnf
            refine ⟨hTm, by show (T.length + 1) * 80 ≤ _; omega, ?_⟩
            conv => whnf
            refine ⟨(i + 1, T ++ [st]), ⟨hI', by show 6 - (i + 1) < 6 - i; omega⟩, ⟨rfl, rfl, rfl, rfl, rfl, rfl, congrArg Go.Rx.I wi, trivial⟩, ⟨[?a20, ?b20, ?c20, ?d20], ?e20⟩, rfl, rfl⟩
            case e20 => exact stepB_eq hst _ _ _ [_, _, _, _]
          · refine ⟨rfl, hm4.1, hm4.2, ?_⟩
            conv => whnf
            refine ⟨rfl, rfl, _, hs1, ?_⟩
            conv => whnf
            refine ⟨rfl, _, hz, ?_⟩
            conv => whnf
            refine ⟨rfl, _, .inl rfl, ?_⟩
            conv => whnf
            refine ⟨hTm, by show (T.length + 1) * 80 ≤ _; omega, ?_⟩
            conv => whnf
            refine ⟨(i + 1, T ++ [st]), ⟨hI', by show 6 - (i + 1) < 6 - i; omega⟩, ⟨rfl, rfl, rfl, rfl, rfl, rfl, congrArg Go.Rx.I wi, trivial⟩, ⟨[?a21, ?b21, ?c21, ?d21], ?e21⟩, rfl, rfl⟩
            case e21 => exact stepB_eq hst _ _ _ [_, _, _, _]
      · refine ⟨[0, 1, 2, 3], [(1, Go.Rx.I k), (2, .lf (.ptr 0 0)), (5, .lf (.ptr 1 0)), (8, Go.Rx.I (7 * (j : Int) - 1)), (9, Go.Rx.I ((m : Int) - 1)), (10, .lf (.ptr 3 0))], ⟨rfl, rfl, rfl, rfl, rfl, rfl, trivial⟩, rfl, _, _, rfl, rfl, [.cell 3 5 37 6], rfl, ?_⟩
        exact ⟨((m : Int) - 1, ⟨#[]⟩, ⟨#[]⟩, []), ⟨Nat.zero_le _, Nat.zero_le _, Nat.zero_le _, fun r hr => (List.not_mem_nil hr).elim⟩, ⟨rfl, rfl, rfl, rfl, rfl, rfl, trivial⟩, ⟨[], rfl⟩, rfl, rfl⟩
    rintro ⟨n, key, body, T⟩ ⟨hkey, hbody, hT, hTok⟩
    simp only at hkey hbody hT hTok
    refine aw_of T_ok (by kernel_rfl) ?_
    conv => whnf
    refine ⟨List.length_map .., ?_⟩
    conv => whnf
    refine ⟨rfl, _, .inl rfl, ?_⟩
    conv => whnf
    refine ⟨List.length_map .., by show (L.length + 1) * 80 ≤ _; omega, ?_⟩
    conv => whnf
    refine ⟨(m + 1, L ++ [⟨k, 7 * (j : Int) - 1, n, key, body, T⟩]), ⟨⟨by omega, by rw [List.length_append]; simp only [List.length_cons, List.length_nil]; omega, okR_snoc hok ⟨by show key.size ≤ _; omega, by show body.size ≤ _; omega, by show T.length * 80 ≤ _; omega, hTok⟩⟩, by show 7 - (m + 1) < 7 - m; omega⟩, ⟨rfl, rfl, rfl, rfl, congrArg Go.Rx.I wm, trivial⟩, ⟨[?r3, ?r4, ?r5], ?e2⟩, rfl, rfl⟩
    case e2 => exact qB_eq L ⟨k, 7 * (j : Int) - 1, n, key, body, T⟩ S N _ [_, _, _]
  rintro L ⟨hL, hok⟩
  have cn := bytes_con ⟨k, 0, 0, ⟨#[]⟩, ⟨#[]⟩, []⟩ ⟨Nat.zero_le _, Nat.zero_le _, ⟨Nat.zero_le _, fun x hx => (List.not_mem_nil hx).elim⟩⟩
  rw [none11] at cn
  refine aw_of T_ok (by kernel_rfl) ?_
  conv => whnf
  refine AW.loop (fun p : Nat × Bool => p.1 ≤ L.length + 8) (fun p => [(1, Go.Rx.I k), (2, .lf (.ptr 0 0)), (5, .lf (.ptr 1 0)), (12, Go.Rx.I p.1)]) (fun p => [ask11V R S N, qB L S N, if p.2 = true then .frz 6 (L.map Rec.enc) else recsB L]) (fun p => L.length + 8 - p.1) [] ?_ ?_
  · exact ⟨(0, false), Nat.zero_le _, ⟨rfl, rfl, rfl, rfl, trivial⟩, ⟨[], rfl⟩, rfl, rfl⟩
  rintro ⟨i, fz⟩ hi
  simp only at hi
  have hLm : (L.map Rec.enc).length = L.length := List.length_map ..
  have wi : IntKind.i64.wrap ((i : Int) + 8) = ((i + 8 : Nat) : Int) := wrapI (by omega)
  cases fz
  all_goals
    refine aw_of T_ok (by kernel_rfl) ?_
    conv => whnf
    refine ⟨hLm, ?_⟩
    conv => whnf
    split <;> rename_i t1 <;> conv => whnf
    rotate_left
    · refine callW cn ⟨.inr (.inr ⟨_, _, rfl, rfl, .inl rfl, .inl rfl, .inl rfl, .inl rfl, .inl rfl, wkN 6, trivial⟩), trivial⟩ rfl ?_
      conv => whnf
      refine callS (num_con 1 (by decide)) rfl ?_
      conv => whnf
      refine callS wakes11_con rfl ?_
      conv => whnf
      exact finB ⟨rfl⟩
    have a1 : (i : Int) < (L.length : Int) := of_decide_eq_true t1
    refine ⟨hLm, ?_⟩
    conv => whnf
    obtain ⟨hb, hbe, hb1, hb2⟩ : ∃ hb : Nat, (if (L.length : Int) < IntKind.i64.wrap ((i : Int) + 8) then (L.length : Int) else IntKind.i64.wrap ((i : Int) + 8)) = hb ∧ i ≤ hb ∧ hb ≤ L.length := by
      rw [wi]
      split
      · exact ⟨L.length, rfl, by omega, Nat.le_refl _⟩
      · exact ⟨i + 8, rfl, by omega, by omega⟩
    refine ⟨hLm, ?_⟩
    conv => whnf
    refine ⟨by omega, by rw [hbe]; omega, by rw [hbe, hLm]; omega, ?_⟩
    conv => whnf
    have hw : WkL (.pv (.sl 6 (((L.map Rec.enc).take (if (L.length : Int) < IntKind.i64.wrap ((i : Int) + 8) then (L.length : Int) else IntKind.i64.wrap ((i : Int) + 8)).toNat).drop ((i : Int)).toNat))) (.pv (encRecs ((L.take hb).drop i))) := by
      rw [hbe]
      refine .inl ?_
      rw [Int.toNat_natCast, Int.toNat_natCast, ← List.map_take, ← List.map_drop]
    refine callW (recordBytes_con ((L.take hb).drop i) [] [] (ask_sub hL hok i hb)) ⟨.inr (.inr ⟨_, _, rfl, rfl, hw, wkN 1, wkN 1, trivial⟩), trivial⟩ rfl ?_
    conv => whnf
    refine ⟨hLm, ?_⟩
    conv => whnf
    refine ⟨hLm, ?_⟩
    conv => whnf
    refine ⟨by omega, by rw [hbe]; omega, by rw [hbe, hLm]; omega, ?_⟩
    conv => whnf
    refine callW (recordBack_con ((L.take hb).drop i) [] [] (ask_sub hL hok i hb)) ⟨.inr (.inr ⟨_, _, rfl, rfl, hw, wkN 1, wkN 1, trivial⟩), trivial⟩ rfl ?_
    conv => whnf
    exact ⟨(i + 8, true), ⟨by show i + 8 ≤ L.length + 8; omega, by show L.length + 8 - (i + 8) < L.length + 8 - i; omega⟩, ⟨rfl, rfl, rfl, congrArg Go.Rx.I wi, trivial⟩, ⟨[], rfl⟩, rfl, rfl⟩
end Go.Proofs.YtdifjeaplceadaaGreat.Rx

/- The six kinds of records. -/
set_option linter.unusedVariables false
set_option linter.unusedSimpArgs false
namespace Go.Proofs.YtdifjeaplceadaaGreat.Rx
open Go.Rx Go.Proofs Go.Proofs.YtdifjeaplceadaaGreat.RxB
theorem recordBegin_con (R : List Rec) (S : List ByteArray) (N : List Int) (h : Ask11 R S) : Con P 3 [encAsk11 R S N] (Bl true) [] := by
  refine Con.of T_ok Tryz.func3 rfl (by kernel_rfl) (by kernel_rfl) (aw_of T_ok (by kernel_rfl) ?_)
  conv => whnf
  refine callS (kind11_con 1 (by decide) R S N h) rfl ?_
  conv => whnf
  exact finB ⟨rfl⟩
theorem recordCall_con (R : List Rec) (S : List ByteArray) (N : List Int) (h : Ask11 R S) : Con P 4 [encAsk11 R S N] (Bl true) [] := by
  refine Con.of T_ok Tryz.func4 rfl (by kernel_rfl) (by kernel_rfl) (aw_of T_ok (by kernel_rfl) ?_)
  conv => whnf
  refine callS (kind11_con 2 (by decide) R S N h) rfl ?_
  conv => whnf
  exact finB ⟨rfl⟩
theorem recordDone_con (R : List Rec) (S : List ByteArray) (N : List Int) (h : Ask11 R S) : Con P 5 [encAsk11 R S N] (Bl true) [] := by
  refine Con.of T_ok Tryz.func5 rfl (by kernel_rfl) (by kernel_rfl) (aw_of T_ok (by kernel_rfl) ?_)
  conv => whnf
  refine callS (kind11_con 3 (by decide) R S N h) rfl ?_
  conv => whnf
  exact finB ⟨rfl⟩
theorem recordAbort_con (R : List Rec) (S : List ByteArray) (N : List Int) (h : Ask11 R S) : Con P 6 [encAsk11 R S N] (Bl true) [] := by
  refine Con.of T_ok Tryz.func6 rfl (by kernel_rfl) (by kernel_rfl) (aw_of T_ok (by kernel_rfl) ?_)
  conv => whnf
  refine callS (kind11_con 4 (by decide) R S N h) rfl ?_
  conv => whnf
  exact finB ⟨rfl⟩
theorem recordUndone_con (R : List Rec) (S : List ByteArray) (N : List Int) (h : Ask11 R S) : Con P 7 [encAsk11 R S N] (Bl true) [] := by
  refine Con.of T_ok Tryz.func7 rfl (by kernel_rfl) (by kernel_rfl) (aw_of T_ok (by kernel_rfl) ?_)
  conv => whnf
  refine callS (kind11_con 5 (by decide) R S N h) rfl ?_
  conv => whnf
  exact finB ⟨rfl⟩
theorem recordEnd_con (R : List Rec) (S : List ByteArray) (N : List Int) (h : Ask11 R S) : Con P 8 [encAsk11 R S N] (Bl true) [] := by
  refine Con.of T_ok Tryz.func8 rfl (by kernel_rfl) (by kernel_rfl) (aw_of T_ok (by kernel_rfl) ?_)
  conv => whnf
  refine callS (kind11_con 6 (by decide) R S N h) rfl ?_
  conv => whnf
  exact finB ⟨rfl⟩
end Go.Proofs.YtdifjeaplceadaaGreat.Rx
