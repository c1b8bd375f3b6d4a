/- The texts of the proof, part 4, in order. -/
import Derived.Test.YteebnpkoephjnaaZc
/- A record's bytes: the page's. -/
set_option linter.unusedVariables false
set_option linter.unusedSimpArgs false
namespace Go.Rx
def cat (a b : ByteArray) : ByteArray := ⟨a.data ++ b.data⟩
theorem bytesOf_append (a b : List UInt8) : bytesOf (a ++ b) = ⟨(bytesOf a).data ++ (bytesOf b).data⟩ := by
  simp [bytesOf]
theorem bytesOf_size (a : List UInt8) : (bytesOf a).size = a.length := rfl
theorem bytesOf_list (s : ByteArray) : bytesOf s.data.toList = s := rfl
theorem bytesOf_data (l : List UInt8) : (bytesOf l).data.toList = l := rfl
theorem be4_rows (x : Int) : [[PV.sc (.int .u8 (IntKind.u8.wrap (x.fdiv 16777216)))], [PV.sc (.int .u8 (IntKind.u8.wrap (x.fdiv 65536)))], [PV.sc (.int .u8 (IntKind.u8.wrap (x.fdiv 256)))], [PV.sc (.int .u8 (IntKind.u8.wrap x))]] = byteRows (bytesOf (be4 x)) := by
  rw [byteZ_wrap, byteZ_wrap, byteZ_wrap, byteZ_wrap]; rfl
theorem bytesOf_app (a b : List UInt8) : bytesOf (a ++ b) = bytesOf a ++ bytesOf b := by
  apply ByteArray.ext
  rw [ByteArray.data_append]
  simp [bytesOf]
theorem app_assoc (a b c : ByteArray) : a ++ b ++ c = a ++ (b ++ c) := ByteArray.append_assoc
/-- The check of bytes. -/
def chkF (h : Nat) (c : UInt8) : Nat := (h * 257 + c.toNat + 1) % 4294967291
def chk (l : List UInt8) : Nat := l.foldl chkF 7
theorem chk_lt (l : List UInt8) : chk l < 4294967291 := by
  have : ∀ (l : List UInt8) (h : Nat), h < 4294967291 → l.foldl chkF h < 4294967291 := by
    intro l
    induction l with
    | nil => intro h hh; exact hh
    | cons c l ih => intro h hh; exact ih _ (Nat.mod_lt _ (by decide))
  exact this l 7 (by decide)
theorem chk_snoc (l : List UInt8) (c : UInt8) : chk (l ++ [c]) = chkF (chk l) c := by rw [chk, List.foldl_append]; rfl
theorem wrapU64 {n : Int} (h0 : 0 ≤ n) (h : n < 18446744073709551616) : IntKind.u64.wrap n = n := by
  have e : ∀ y : Int, IntKind.u64.wrap y = y % 18446744073709551616 := fun y => by
    simp [IntKind.wrap, IntKind.bits, IntKind.signed]
  rw [e]; omega
theorem wrapU32 {n : Int} (h0 : 0 ≤ n) (h : n < 4294967296) : IntKind.u32.wrap n = n := by
  have e : ∀ y : Int, IntKind.u32.wrap y = y % 4294967296 := fun y => by
    simp [IntKind.wrap, IntKind.bits, IntKind.signed]
  rw [e]; omega
abbrev U64 (n : Nat) : AV := .lf (.pv (.sc (.int .u64 n)))
abbrev U32 (n : Nat) : AV := .lf (.pv (.sc (.int .u32 n)))
theorem chk_step {h : Nat} {c : UInt8} (hh : h < 4294967291) :
    (IntKind.u64.wrap (IntKind.u64.wrap (IntKind.u64.wrap ((h : Int) * 257) + IntKind.u64.wrap (c.toNat : Int)) + 1)) % 4294967291 = ((chkF h c : Nat) : Int) ∧ 0 ≤ IntKind.u64.wrap (IntKind.u64.wrap (IntKind.u64.wrap ((h : Int) * 257) + IntKind.u64.wrap (c.toNat : Int)) + 1) := by
  have hc : c.toNat < 256 := c.toNat_lt
  rw [wrapU64 (n := (c.toNat : Int)) (by omega) (by omega), wrapU64 (n := (h : Int) * 257) (by omega) (by omega), wrapU64 (n := (h : Int) * 257 + c.toNat) (by omega) (by omega), wrapU64 (by omega) (by omega)]
  rw [chkF]
  omega
end Go.Rx
namespace Go.Proofs.Yteebnpkoephjnaa.Rx
open Go.Rx Go.Proofs Go.Proofs.Yteebnpkoephjnaa.RxB

theorem rnum_con (x : Int) : Con P 41 [Go.Rx.I x] (Sx (bytesOf (be4 x))) [] := by
  refine Con.of T_ok Try.func41 rfl (by kernel_rfl) (by kernel_rfl) (aw_of T_ok (by kernel_rfl) ?_)
  conv => whnf
  refine ⟨by decide, ?_⟩
  conv => whnf
  refine ⟨by decide, ?_⟩
  conv => whnf
  refine ⟨by decide, ?_⟩
  conv => whnf
  refine ⟨rfl, bytesOf (be4 x), be4_rows x, ?_⟩
  conv => whnf
  exact finA ⟨rfl⟩
theorem rtext_con (s : ByteArray) (h : s.size ≤ 1000000) : Con P 42 [Sx s] (Sx (bytesOf (txtL s))) [] := by
  refine Con.of T_ok Try.func42 rfl (by kernel_rfl) (by kernel_rfl) (aw_of T_ok (by kernel_rfl) ?_)
  conv => whnf
  refine callS (rnum_con s.size) rfl ?_
  conv => whnf
  refine ⟨by rw [bytesOf_size, be4_len]; omega, ?_⟩
  conv => whnf
  refine finA ⟨?_⟩
  rw [txtL, bytesOf_app]
  rfl
set_option maxHeartbeats 1000000 in
theorem chk_con (s : ByteArray) (hs : s.size ≤ 1000000) : Con P 43 [Sx s] (U32 (chk s.data.toList)) [] := by
  refine Con.of T_ok Try.func43 rfl (by kernel_rfl) (by kernel_rfl) (aw_of T_ok (by kernel_rfl) ?_)
  conv => whnf
  refine AW.loop (fun k : Nat => k ≤ s.size) (fun k => [(0, Sx s), (3, U64 (chk (s.data.toList.take k))), (4, Go.Rx.I k)]) (fun _ => []) (fun k => s.size - k) [] ?_ ?_
  · exact ⟨0, Nat.zero_le _, ⟨rfl, rfl, rfl, trivial⟩, ⟨[], rfl⟩, rfl, rfl⟩
  intro k hk
  have wk : IntKind.i64.wrap ((k : Int) + 1) = ((k + 1 : Nat) : Int) := wrapI (by omega)
  refine aw_of T_ok (by kernel_rfl) ?_
  conv => whnf
  split <;> rename_i hlt <;> conv => whnf
  · have hks : k < s.size := by simpa using hlt
    have hnx : chk (s.data.toList.take (k + 1)) = chkF (chk (s.data.toList.take k)) s[k] := by
      rw [take_succ' (l := s.data.toList) (k := k) (by simpa using hks), chk_snoc]; rfl
    have hcl := chk_lt (s.data.toList.take k)
    have hst := chk_step (c := s[k]) hcl
    refine ⟨by omega, s[k], atB hks, ?_⟩
    conv => whnf
    refine ⟨hst.2, by decide, ?_⟩
    conv => whnf
    exact ⟨k + 1, ⟨hks, by omega⟩, ⟨rfl, congrArg (fun n : Int => AV.lf (.pv (.sc (.int .u64 n)))) (hst.1.trans (congrArg Int.ofNat hnx.symm)), congrArg Go.Rx.I wk, trivial⟩, ⟨[], rfl⟩, rfl, rfl⟩
  · have hks : k = s.size := by have : ¬ ((k : Int) < (s.size : Int)) := of_decide_eq_false hlt
                                omega
    have hl : s.data.toList.take k = s.data.toList := List.take_of_length_le (by rw [hks]; exact Nat.le_refl _)
    have hcl := chk_lt s.data.toList
    rw [hl]
    exact finA ⟨congrArg (fun n : Int => some (AV.lf (.pv (.sc (.int .u32 n))))) (wrapU32 (n := (chk s.data.toList : Nat)) (by omega) (by omega))⟩
set_option maxHeartbeats 1000000 in
theorem of_con (s : ByteArray) (hs : s.size ≤ 1000000) : Con P 59 [Sx s] (U32 (chk s.data.toList)) [] := by
  refine Con.of T_ok Try.func59 rfl (by kernel_rfl) (by kernel_rfl) (aw_of T_ok (by kernel_rfl) ?_)
  conv => whnf
  refine AW.loop (fun k : Nat => k ≤ s.size) (fun k => [(0, Sx s), (3, U64 (chk (s.data.toList.take k))), (6, Go.Rx.I s.size), (7, Go.Rx.I k)]) (fun _ => []) (fun k => s.size - k) [] ?_ ?_
  · exact ⟨0, Nat.zero_le _, ⟨rfl, rfl, rfl, rfl, trivial⟩, ⟨[], rfl⟩, rfl, rfl⟩
  intro k hk
  have wk : IntKind.i64.wrap ((k : Int) + 1) = ((k + 1 : Nat) : Int) := wrapI (by omega)
  refine aw_of T_ok (by kernel_rfl) ?_
  conv => whnf
  split <;> rename_i hlt <;> conv => whnf
  · have hks : k < s.size := by simpa using hlt
    have hnx : chk (s.data.toList.take (k + 1)) = chkF (chk (s.data.toList.take k)) s[k] := by
      rw [take_succ' (l := s.data.toList) (k := k) (by simpa using hks), chk_snoc]; rfl
    have hcl := chk_lt (s.data.toList.take k)
    have hst := chk_step (c := s[k]) hcl
    refine ⟨by omega, s[k], atB hks, ?_⟩
    conv => whnf
    refine ⟨hst.2, by decide, ?_⟩
    conv => whnf
    exact ⟨k + 1, ⟨hks, by omega⟩, ⟨rfl, congrArg (fun n : Int => AV.lf (.pv (.sc (.int .u64 n)))) (hst.1.trans (congrArg Int.ofNat hnx.symm)), rfl, congrArg Go.Rx.I wk, trivial⟩, ⟨[], rfl⟩, rfl, rfl⟩
  · have hks : k = s.size := by have : ¬ ((k : Int) < (s.size : Int)) := of_decide_eq_false hlt
                                omega
    have hl : s.data.toList.take k = s.data.toList := List.take_of_length_le (by rw [hks]; exact Nat.le_refl _)
    have hcl := chk_lt s.data.toList
    rw [hl]
    exact finA ⟨congrArg (fun n : Int => some (AV.lf (.pv (.sc (.int .u32 n))))) (wrapU32 (n := (chk s.data.toList : Nat)) (by omega) (by omega))⟩
theorem snum_con (x : Nat) : Con P 73 [U32 x] (Sx (bytesOf (be4 x))) [] := by
  refine Con.of T_ok Try.func73 rfl (by kernel_rfl) (by kernel_rfl) (aw_of T_ok (by kernel_rfl) ?_)
  conv => whnf
  refine ⟨by decide, ?_⟩
  conv => whnf
  refine ⟨by decide, ?_⟩
  conv => whnf
  refine ⟨by decide, ?_⟩
  conv => whnf
  refine ⟨rfl, bytesOf (be4 x), be4_rows x, ?_⟩
  conv => whnf
  exact finA ⟨rfl⟩
end Go.Proofs.Yteebnpkoephjnaa.Rx

/- A record's bytes: the page's, and its frame. -/
set_option linter.unusedVariables false
set_option linter.unusedSimpArgs false
namespace Go.Proofs.Yteebnpkoephjnaa.Rx
open Go.Rx Go.Proofs Go.Proofs.Yteebnpkoephjnaa.RxB
set_option maxHeartbeats 1000000 in
theorem rplain_con (r : Rec) (h : SmallR r) : Con P 29 [encRec r] (Sx (bytesOf (plainL r))) [] := by
  have hl := h.len
  have hkey := h.key
  have hbody := h.body
  have hm : (r.steps.map Step.enc).length = r.steps.length := List.length_map ..
  obtain ⟨W, hW⟩ : ∃ W : Nat → ByteArray, ∀ k, W k = bytesOf (headL r ++ moreL r ++ (r.steps.take k).flatMap stepL1) := ⟨_, fun _ => rfl⟩
  obtain ⟨H, hH⟩ : ∃ H : ByteArray, H = bytesOf (headL r) := ⟨_, rfl⟩
  have e0 : bytesOf (be4 r.kind) ++ bytesOf (be4 r.id) ++ bytesOf (be4 r.n) ++ bytesOf (be4 0) = H := by
    rw [hH, headL]; simp [numsL, bytesOf_app, app_assoc]
  have sH : H.size = 16 := by rw [hH]; rfl
  have e1 : H ++ bytesOf (txtL r.key) ++ bytesOf (txtL r.body) ++ bytesOf (be4 ((r.steps.map Step.enc).length : Int)) = W 0 := by
    rw [hW, hH, hm, moreL]; simp [bytesOf_app, app_assoc]
  obtain ⟨p, hp⟩ : ∃ p, bytesOf (plainL r) = p := ⟨_, rfl⟩
  rw [hp]
  refine Con.of T_ok Try.func29 rfl (by kernel_rfl) (by kernel_rfl) (aw_ofC T_ok 2002 (by kernel_rfl) ?_)
  conv => whnf
  refine AW.draw T_ok rfl (listPl [0, 1, 3, 4, 7, 8, 2, 5, 6, 9, 10, 11, 12, 13]) (by kernel_rfl) (by kernel_rfl) ?_
  conv => whnf
  refine callS (rnum_con r.kind) rfl ?_
  conv => whnf
  refine callS (rnum_con r.id) rfl ?_
  conv => whnf
  refine ⟨by simp only [ByteArray.size_append, bytesOf_size, be4_len]; omega, ?_⟩
  conv => whnf
  refine callS (rnum_con r.n) rfl ?_
  conv => whnf
  refine ⟨by simp only [ByteArray.size_append, bytesOf_size, be4_len]; omega, ?_⟩
  conv => whnf
  refine callS (rnum_con 0) rfl ?_
  conv => whnf
  refine ⟨by simp only [ByteArray.size_append, bytesOf_size, be4_len]; omega, ?_⟩
  conv => whnf
  refine AW.meet (fun _ : Unit => True) (fun _ => [(1, .lf (.ptr 0 0)), (3, Sx H)]) (fun _ => [recBlk r]) [] ⟨(), trivial, ⟨rfl, congrArg (fun b => Sx b) e0, trivial⟩, ⟨[], rfl⟩, rfl, rfl⟩ ?_
  rintro _ _
  refine aw_of T_ok (by kernel_rfl) ?_
  conv => whnf
  split <;> rename_i hk <;> conv => whnf
  · have hk1 : ¬ r.kind = 1 := by simpa using hk
    have hp2 : H = p := by rw [hH, ← hp, plainL, if_neg hk1]
    exact finA ⟨congrArg (fun b => some (Sx b)) hp2⟩
  have hk1 : r.kind = 1 := by simpa using hk
  have hp2 : W r.steps.length = p := by rw [← hp, plainL, if_pos hk1, hW, List.take_length]
  refine AW.draw T_ok rfl (listPl [0, 1, 2, 5, 6, 9, 10, 11, 3, 4, 7, 8, 12, 13, 14]) (by kernel_rfl) (by kernel_rfl) ?_
  conv => whnf
  refine callS (rtext_con r.key (by omega)) rfl ?_
  conv => whnf
  refine ⟨by simp only [ByteArray.size_append, bytesOf_size, be4_len, txt_len]; omega, ?_⟩
  conv => whnf
  refine callS (rtext_con r.body (by omega)) rfl ?_
  conv => whnf
  refine ⟨by simp only [ByteArray.size_append, bytesOf_size, be4_len, txt_len]; omega, ?_⟩
  conv => whnf
  refine callS (rnum_con ((r.steps.map Step.enc).length : Int)) rfl ?_
  conv => whnf
  refine ⟨by simp only [ByteArray.size_append, bytesOf_size, be4_len, txt_len]; omega, ?_⟩
  conv => whnf
  refine AW.loop (fun k : Nat => k ≤ r.steps.length) (fun k => [(1, .lf (.ptr 0 0)), (3, Sx (W k)), (4, Go.Rx.I k)]) (fun k => [recBlk r]) (fun k => r.steps.length - k) [] ?_ ?_
  · exact ⟨0, Nat.zero_le _, ⟨rfl, congrArg (fun b => Sx b) e1, rfl, trivial⟩, ⟨[], rfl⟩, rfl, rfl⟩
  intro k hk
  have wk : IntKind.i64.wrap ((k : Int) + 1) = ((k + 1 : Nat) : Int) := wrapI (by omega)
  have hml := more_len h
  have hbl : (W k).size ≤ 4128 + 424 * k := by
    have := steps_len (l := r.steps.take k) fun x hx => h.st x (List.mem_of_mem_take hx)
    rw [hW, bytesOf_size]
    simp only [List.length_append] at this ⊢
    rw [List.length_take] at this
    have : 424 * min k r.steps.length = 424 * k := by omega
    have := head_len r
    omega
  refine aw_of T_ok (by kernel_rfl) ?_
  conv => whnf
  split <;> rename_i hlt <;> conv => whnf
  · have hkl : k < r.steps.length := by have : (k : Int) < ((r.steps.map Step.enc).length : Int) := of_decide_eq_true hlt
                                        omega
    have hrow : (r.steps.map Step.enc)[k]? = some r.steps[k].enc := by simp [hkl]
    have hnx : W (k + 1) = W k ++ bytesOf (stepL1 r.steps[k]) := by
      rw [hW, hW, take_succ' hkl, List.flatMap_append]; simp [bytesOf_app, app_assoc]
    have hx := h.st r.steps[k] (List.getElem_mem _)
    generalize r.steps[k] = x at hrow hnx hx
    have e2 : W k ++ bytesOf (txtL x.nm) ++ bytesOf (be4 x.service) ++ bytesOf (txtL x.op) ++ bytesOf (txtL x.undo) ++ bytesOf (txtL x.who) ++ bytesOf (be4 x.n) = W (k + 1) := by
      rw [hnx, stepL1]; simp [bytesOf_app, app_assoc]
    refine ⟨by omega, _, hrow, ?_⟩
    conv => whnf
    refine AW.meet (fun _ : Unit => True) (fun _ => [(1, .lf (.ptr 0 0)), (3, Sx (W k)), (4, Go.Rx.I k), (5, .lf (.ptr 1 0))]) (fun _ => [recBlk r, stepBlk x]) [] ⟨(), trivial, ⟨rfl, rfl, rfl, rfl, trivial⟩, ⟨[], rfl⟩, rfl, rfl⟩ ?_
    rintro _ _
    refine AW.draw T_ok rfl (listPl [0, 1, 2, 5, 6, 9, 10, 13, 14, 17, 18, 21, 22, 3, 4, 7, 8, 11, 12, 15, 16, 19, 20, 23, 24, 25]) (by kernel_rfl) (by kernel_rfl) ?_
    conv => whnf
    refine callS (rtext_con x.nm (by omega)) rfl ?_
    conv => whnf
    refine ⟨by simp only [ByteArray.size_append, bytesOf_size, be4_len, txt_len]; omega, ?_⟩
    conv => whnf
    refine callS (rnum_con x.service) rfl ?_
    conv => whnf
    refine ⟨by simp only [ByteArray.size_append, bytesOf_size, be4_len, txt_len]; omega, ?_⟩
    conv => whnf
    refine callS (rtext_con x.op (by omega)) rfl ?_
    conv => whnf
    refine ⟨by simp only [ByteArray.size_append, bytesOf_size, be4_len, txt_len]; omega, ?_⟩
    conv => whnf
    refine callS (rtext_con x.undo (by omega)) rfl ?_
    conv => whnf
    refine ⟨by simp only [ByteArray.size_append, bytesOf_size, be4_len, txt_len]; omega, ?_⟩
    conv => whnf
    refine callS (rtext_con x.who (by omega)) rfl ?_
    conv => whnf
    refine ⟨by simp only [ByteArray.size_append, bytesOf_size, be4_len, txt_len]; omega, ?_⟩
    conv => whnf
    refine callS (rnum_con x.n) rfl ?_
    conv => whnf
    refine ⟨by simp only [ByteArray.size_append, bytesOf_size, be4_len, txt_len]; omega, ?_⟩
    conv => whnf
    exact ⟨k + 1, ⟨hkl, by omega⟩, ⟨rfl, congrArg (fun b => Sx b) e2, congrArg Go.Rx.I wk, trivial⟩, ⟨[stepBlk x], rfl⟩, rfl, rfl⟩
  · have hkl : k = r.steps.length := by have : ¬ ((k : Int) < ((r.steps.map Step.enc).length : Int)) := of_decide_eq_false hlt
                                        omega
    have hp3 : W k = p := hkl ▸ hp2
    exact finA ⟨congrArg (fun b => some (Sx b)) hp3⟩
end Go.Proofs.Yteebnpkoephjnaa.Rx

/- A record's frame, and its bytes. -/
set_option linter.unusedVariables false
set_option linter.unusedSimpArgs false
namespace Go.Rx
/-- A frame's head: the size, the check. -/
def frmL (l : List UInt8) : List UInt8 := be4 l.length ++ be4 (chk (be4 l.length ++ l)) ++ l
def frame (s : ByteArray) : ByteArray := if 4000 < s.size then ⟨#[]⟩ else bytesOf (frmL s.data.toList)
def plainS (r : Rec) : ByteArray := bytesOf (plainL r)
abbrev strI (p : ByteArray × Int) : AV := .tup [.lf (.pv (pS p.1)), .lf (.pv (pI p.2))]
abbrev strB (p : ByteArray × Bool) : AV := .tup [.lf (.pv (pS p.1)), .lf (.pv (.sc (.bool p.2)))]
def frmR (r : Rec) : ByteArray × Int := if 4000 < (plainS r).size then (⟨#[]⟩, 2) else (frame (plainS r), 0)
def bytesR (r : Rec) : ByteArray × Int := if recB r then frmR r else (⟨#[]⟩, 1)
def sizeR (r : Rec) : Int × Int := (((bytesR r).1.size : Int), (bytesR r).2)
def bytes9R (r : Rec) : ByteArray × Bool := if 4000 < (plainS r).size then (⟨#[]⟩, false) else (frame (plainS r), true)
theorem finSI {a : ByteArray} {n : Int} {q : ByteArray × Int} (h : q = (a, n)) : ∃ zs, Fa WkA [Sx a, Go.Rx.I n] zs ∧ pack zs = some (strI q) := ⟨_, wk_refl _, by rw [h]; rfl⟩
theorem finSB {a : ByteArray} {n : Bool} {q : ByteArray × Bool} (h : q = (a, n)) : ∃ zs, Fa WkA [Sx a, Bl n] zs ∧ pack zs = some (strB q) := ⟨_, wk_refl _, by rw [h]; rfl⟩
theorem frm_eq {s : ByteArray} : bytesOf (be4 s.size) ++ bytesOf (be4 (chk (bytesOf (be4 s.size) ++ s).data.toList)) ++ s = bytesOf (frmL s.data.toList) := by
  have e1 : (bytesOf (be4 s.size) ++ s).data.toList = be4 s.size ++ s.data.toList := by rw [ByteArray.data_append, Array.toList_append]; rfl
  have e2 : s.size = s.data.toList.length := rfl
  rw [e1, frmL, bytesOf_app, bytesOf_app, ← e2]
  rfl
end Go.Rx
namespace Go.Proofs.Yteebnpkoephjnaa.Rx
open Go.Rx Go.Proofs Go.Proofs.Yteebnpkoephjnaa.RxB
theorem frame9_con (s : ByteArray) : Con P 30 [Sx s] (Sx (frame s)) [] := by
  refine Con.of T_ok Try.func30 rfl (by kernel_rfl) (by kernel_rfl) (aw_of T_ok (by kernel_rfl) ?_)
  conv => whnf
  split <;> rename_i hs <;> conv => whnf
  · have hs1 : 4000 < s.size := by have := of_decide_eq_true hs; omega
    exact finA ⟨congrArg (fun b => some (Sx b)) (by rw [frame, if_pos hs1])⟩
  have hs1 : ¬ 4000 < s.size := by have : ¬ ((4000 : Int) < (s.size : Int)) := of_decide_eq_false hs
                                   omega
  have z : (bytesOf (be4 s.size) ++ s).size ≤ 5000 := by simp only [ByteArray.size_append, bytesOf_size, be4_len]; omega
  have e : bytesOf (be4 s.size) ++ bytesOf (be4 (chk (bytesOf (be4 s.size) ++ s).data.toList)) ++ s = frame s := by rw [frm_eq, frame, if_neg hs1]
  have wx : IntKind.i64.wrap ((chk (bytesOf (be4 s.size) ++ s).data.toList : Nat) : Int) = (chk (bytesOf (be4 s.size) ++ s).data.toList : Nat) := wrapI (by have := chk_lt (bytesOf (be4 s.size) ++ s).data.toList; omega)
  have z4 : ∀ x : Int, (bytesOf (be4 x)).size = 4 := fun _ => rfl
  refine callS (rnum_con s.size) rfl ?_
  conv => whnf
  refine ⟨by rw [z4]; omega, ?_⟩
  conv => whnf
  refine callS (chk_con (bytesOf (be4 s.size) ++ s) (by omega)) rfl ?_
  conv => whnf
  refine callS (rnum_con _) rfl ?_
  conv => whnf
  refine ⟨by rw [z4, z4]; omega, ?_⟩
  conv => whnf
  refine ⟨by rw [ByteArray.size_append, z4, z4]; omega, ?_⟩
  conv => whnf
  exact finA ⟨congrArg (fun b => some (Sx b)) (by rw [wx]; exact e)⟩
theorem add_con (s : ByteArray) : Con P 54 [Sx s] (Sx (frame s)) [] := by
  refine Con.of T_ok Try.func54 rfl (by kernel_rfl) (by kernel_rfl) (aw_of T_ok (by kernel_rfl) ?_)
  conv => whnf
  split <;> rename_i hs <;> conv => whnf
  · have hs1 : 4000 < s.size := by have := of_decide_eq_true hs; omega
    exact finA ⟨congrArg (fun b => some (Sx b)) (by rw [frame, if_pos hs1])⟩
  have hs1 : ¬ 4000 < s.size := by have : ¬ ((4000 : Int) < (s.size : Int)) := of_decide_eq_false hs
                                   omega
  have z : (bytesOf (be4 s.size) ++ s).size ≤ 5000 := by simp only [ByteArray.size_append, bytesOf_size, be4_len]; omega
  have e : bytesOf (be4 s.size) ++ bytesOf (be4 (chk (bytesOf (be4 s.size) ++ s).data.toList)) ++ s = frame s := by rw [frm_eq, frame, if_neg hs1]
  have wx : IntKind.u32.wrap (s.size : Int) = (s.size : Int) := wrapU32 (by omega) (by omega)
  have z4 : ∀ x : Int, (bytesOf (be4 x)).size = 4 := fun _ => rfl
  have cn : Con P 73 [.lf (.pv (.sc (.int .u32 (IntKind.u32.wrap (s.size : Int)))))] (Sx (bytesOf (be4 s.size))) [] := by rw [wx]; exact snum_con s.size
  refine callS cn rfl ?_
  conv => whnf
  refine ⟨by rw [z4]; omega, ?_⟩
  conv => whnf
  refine callS (of_con (bytesOf (be4 s.size) ++ s) (by omega)) rfl ?_
  conv => whnf
  refine callS (snum_con _) rfl ?_
  conv => whnf
  refine ⟨by rw [z4, z4]; omega, ?_⟩
  conv => whnf
  refine ⟨by rw [ByteArray.size_append, z4, z4]; omega, ?_⟩
  conv => whnf
  exact finA ⟨congrArg (fun b => some (Sx b)) e⟩
theorem rframe_con (r : Rec) (h : SmallR r) : Con P 36 [encRec r] (strI (frmR r)) [] := by
  refine Con.of T_ok Try.func36 rfl (by kernel_rfl) (by kernel_rfl) (aw_of T_ok (by kernel_rfl) ?_)
  conv => whnf
  refine callS (spell_con r h) rfl ?_
  conv => whnf
  split <;> rename_i hs <;> conv => whnf
  · have hs1 : 4000 < (plainS r).size := by have : (4000 : Int) < ((plainS r).size : Int) := of_decide_eq_true hs
                                            omega
    exact finSI (by rw [frmR, if_pos hs1])
  have hs1 : ¬ 4000 < (plainS r).size := by have : ¬ ((4000 : Int) < ((plainS r).size : Int)) := of_decide_eq_false hs
                                            omega
  refine callS (add_con (plainS r)) rfl ?_
  conv => whnf
  exact finSI (by rw [frmR, if_neg hs1])
theorem bytes_con (r : Rec) (h : r.Ok) : Con P 22 [encRec r] (strI (bytesR r)) [] := by
  refine Con.of T_ok Try.func22 rfl (by kernel_rfl) (by kernel_rfl) (aw_of T_ok (by kernel_rfl) ?_)
  conv => whnf
  refine callS (recMay_con r h) rfl ?_
  conv => whnf
  split <;> rename_i hs <;> conv => whnf
  · have hs1 : ¬ recB r = true := by simpa using hs
    exact finSI (by rw [bytesR, if_neg hs1])
  have hs1 : recB r = true := by simpa using hs
  refine callS (rframe_con r (small_of hs1)) rfl ?_
  conv => whnf
  exact finSI (by rw [bytesR, if_pos hs1])
theorem bytes9_con (r : Rec) (h : SmallR r) : Con P 16 [encRec r] (strB (bytes9R r)) [] := by
  refine Con.of T_ok Try.func16 rfl (by kernel_rfl) (by kernel_rfl) (aw_of T_ok (by kernel_rfl) ?_)
  conv => whnf
  refine callS (rplain_con r h) rfl ?_
  conv => whnf
  split <;> rename_i hs <;> conv => whnf
  · have hs1 : 4000 < (plainS r).size := by have : (4000 : Int) < ((plainS r).size : Int) := of_decide_eq_true hs
                                            omega
    exact finSB (by rw [bytes9R, if_pos hs1])
  have hs1 : ¬ 4000 < (plainS r).size := by have : ¬ ((4000 : Int) < ((plainS r).size : Int)) := of_decide_eq_false hs
                                            omega
  refine callS (frame9_con (plainS r)) rfl ?_
  conv => whnf
  exact finSB (by rw [bytes9R, if_neg hs1])
end Go.Proofs.Yteebnpkoephjnaa.Rx

/- Readers of a record's bytes: the code's and the page's. -/
set_option linter.unusedVariables false
set_option linter.unusedSimpArgs false
namespace Go.Rx
theorem or_sum {w a b k : Nat} (hb : b < 2 ^ k) (hd : ∃ q, a = 2 ^ k * q) (hl : a + b < 2 ^ w) : (BitVec.ofInt w (a : Int) ||| BitVec.ofInt w (b : Int)).toNat = a + b := by
  obtain ⟨q, rfl⟩ := hd
  have h1 : (BitVec.ofInt w ((2 ^ k * q : Nat) : Int)) = BitVec.ofNat w (2 ^ k * q) := BitVec.ofInt_natCast ..
  have h2 : (BitVec.ofInt w ((b : Nat) : Int)) = BitVec.ofNat w b := BitVec.ofInt_natCast ..
  rw [h1, h2, BitVec.toNat_or, BitVec.toNat_ofNat, BitVec.toNat_ofNat, Nat.mod_eq_of_lt (by omega), Nat.mod_eq_of_lt (by omega), Nat.two_pow_add_eq_or_of_lt hb]
def num4 : List UInt8 → Nat
  | a :: b :: c :: d :: _ => ((a.toNat * 256 + b.toNat) * 256 + c.toNat) * 256 + d.toNat
  | _ => 0
theorem num4_lt (l : List UInt8) : num4 l < 4294967296 := by
  unfold num4
  split
  · rename_i a b c d _
    have := a.toNat_lt; have := b.toNat_lt; have := c.toNat_lt; have := d.toNat_lt
    omega
  · decide
theorem num4_u32 (a b c d : UInt8) :
    IntKind.u32.wrap ((BitVec.ofInt 32 (IntKind.u32.wrap ((BitVec.ofInt 32 (IntKind.u32.wrap ((BitVec.ofInt 32 (IntKind.u32.wrap (IntKind.u32.wrap (a.toNat : Int) * 16777216)) ||| BitVec.ofInt 32 (IntKind.u32.wrap (IntKind.u32.wrap (b.toNat : Int) * 65536))).toNat : Int)) ||| BitVec.ofInt 32 (IntKind.u32.wrap (IntKind.u32.wrap (c.toNat : Int) * 256))).toNat : Int)) ||| BitVec.ofInt 32 (IntKind.u32.wrap (d.toNat : Int))).toNat : Int) = (num4 [a, b, c, d] : Nat) := by
  have e0 : num4 [a, b, c, d] = ((a.toNat * 256 + b.toNat) * 256 + c.toNat) * 256 + d.toNat := rfl
  rw [e0]
  have ha := a.toNat_lt; have hb := b.toNat_lt; have hc := c.toNat_lt; have hd := d.toNat_lt
  generalize a.toNat = a at *; generalize b.toNat = b at *; generalize c.toNat = c at *; generalize d.toNat = d at *
  have e1 : IntKind.u32.wrap (IntKind.u32.wrap (a : Int) * 16777216) = ((a * 16777216 : Nat) : Int) := by rw [wrapU32 (n := (a : Int)) (by omega) (by omega), wrapU32 (by omega) (by omega)]; omega
  have e2 : IntKind.u32.wrap (IntKind.u32.wrap (b : Int) * 65536) = ((b * 65536 : Nat) : Int) := by rw [wrapU32 (n := (b : Int)) (by omega) (by omega), wrapU32 (by omega) (by omega)]; omega
  have e3 : IntKind.u32.wrap (IntKind.u32.wrap (c : Int) * 256) = ((c * 256 : Nat) : Int) := by rw [wrapU32 (n := (c : Int)) (by omega) (by omega), wrapU32 (by omega) (by omega)]; omega
  rw [e1, e2, e3, or_sum (k := 24) (by omega) ⟨a, by omega⟩ (by omega), wrapU32 (n := (d : Int)) (by omega) (by omega),
    wrapU32 (n := ((a * 16777216 + b * 65536 : Nat) : Int)) (by omega) (by omega),
    or_sum (k := 16) (by omega) ⟨a * 256 + b, by omega⟩ (by omega), wrapU32 (n := ((a * 16777216 + b * 65536 + c * 256 : Nat) : Int)) (by omega) (by omega),
    or_sum (k := 8) (by omega) ⟨a * 65536 + b * 256 + c, by omega⟩ (by omega), wrapU32 (by omega) (by omega)]
  omega
theorem num4_i64 (a b c d : UInt8) :
    IntKind.i64.wrap ((BitVec.ofInt 64 (IntKind.i64.wrap ((BitVec.ofInt 64 (IntKind.i64.wrap ((BitVec.ofInt 64 (IntKind.i64.wrap (IntKind.i64.wrap (a.toNat : Int) * 16777216)) ||| BitVec.ofInt 64 (IntKind.i64.wrap (IntKind.i64.wrap (b.toNat : Int) * 65536))).toNat : Int)) ||| BitVec.ofInt 64 (IntKind.i64.wrap (IntKind.i64.wrap (c.toNat : Int) * 256))).toNat : Int)) ||| BitVec.ofInt 64 (IntKind.i64.wrap (d.toNat : Int))).toNat : Int) = (num4 [a, b, c, d] : Nat) := by
  have e0 : num4 [a, b, c, d] = ((a.toNat * 256 + b.toNat) * 256 + c.toNat) * 256 + d.toNat := rfl
  rw [e0]
  have ha := a.toNat_lt; have hb := b.toNat_lt; have hc := c.toNat_lt; have hd := d.toNat_lt
  generalize a.toNat = a at *; generalize b.toNat = b at *; generalize c.toNat = c at *; generalize d.toNat = d at *
  have e1 : IntKind.i64.wrap (IntKind.i64.wrap (a : Int) * 16777216) = ((a * 16777216 : Nat) : Int) := by rw [wrapI (n := (a : Int)) (by omega), wrapI (by omega)]; omega
  have e2 : IntKind.i64.wrap (IntKind.i64.wrap (b : Int) * 65536) = ((b * 65536 : Nat) : Int) := by rw [wrapI (n := (b : Int)) (by omega), wrapI (by omega)]; omega
  have e3 : IntKind.i64.wrap (IntKind.i64.wrap (c : Int) * 256) = ((c * 256 : Nat) : Int) := by rw [wrapI (n := (c : Int)) (by omega), wrapI (by omega)]; omega
  rw [e1, e2, e3, or_sum (k := 24) (by omega) ⟨a, by omega⟩ (by omega), wrapI (n := (d : Int)) (by omega),
    wrapI (n := ((a * 16777216 + b * 65536 : Nat) : Int)) (by omega),
    or_sum (k := 16) (by omega) ⟨a * 256 + b, by omega⟩ (by omega), wrapI (n := ((a * 16777216 + b * 65536 + c * 256 : Nat) : Int)) (by omega),
    or_sum (k := 8) (by omega) ⟨a * 65536 + b * 256 + c, by omega⟩ (by omega), wrapI (by omega)]
  omega
theorem num4_of {s : ByteArray} (h : 4 ≤ s.size) : num4 s.data.toList = num4 [s[0], s[1], s[2], s[3]] := by
  have e : s.data.toList = s[0] :: s[1] :: s[2] :: s[3] :: s.data.toList.drop 4 := by
    rw [← dropB s 3 (by omega), ← dropB s 2 (by omega), ← dropB s 1 (by omega), ← dropB s 0 (by omega), List.drop_zero]
  rw [e]; rfl
theorem ext_list (s : ByteArray) (i j : Nat) : (s.extract i j).data.toList = (s.data.toList.drop i).take (j - i) := by
  rw [ByteArray.data_extract, Array.toList_extract]
theorem num4_take (l : List UInt8) : num4 (l.take 4) = num4 l := by
  match l with
  | [] => rfl
  | [a] => rfl
  | [a, b] => rfl
  | [a, b, c] => rfl
  | a :: b :: c :: d :: t => rfl
abbrev rdr (q : ByteArray × Bool) : Blk := .var [.pv (pS q.1), .pv (.sc (.bool q.2))]
/-- Reading: so many bytes, a number, a text. -/
def rdB (q : ByteArray × Bool) (n : Int) : ByteArray × (ByteArray × Bool) :=
  if q.2 = true ∨ n < 0 ∨ (q.1.size : Int) < n then (⟨#[]⟩, (q.1, true)) else (q.1.extract 0 n.toNat, (q.1.extract n.toNat q.1.size, q.2))
def sgn (n : Nat) : Int := if 2147483648 ≤ n then (n : Int) - 4294967296 else n
def rdN (q : ByteArray × Bool) : Int × (ByteArray × Bool) := if (rdB q 4).2.2 then (0, (rdB q 4).2) else (sgn (num4 (rdB q 4).1.data.toList), (rdB q 4).2)
def rdT (q : ByteArray × Bool) : ByteArray × (ByteArray × Bool) := rdB (rdN q).2 (rdN q).1
end Go.Rx
namespace Go.Proofs.Yteebnpkoephjnaa.Rx
open Go.Rx Go.Proofs Go.Proofs.Yteebnpkoephjnaa.RxB
theorem sealnum_con (s : ByteArray) (h : 4 ≤ s.size) : Con P 58 [Sx s] (U32 (num4 s.data.toList)) [] := by
  refine Con.of T_ok Try.func58 rfl (by kernel_rfl) (by kernel_rfl) (aw_of T_ok (by kernel_rfl) ?_)
  conv => whnf
  refine AW.draw T_ok rfl (seqPl 0 19) (by kernel_rfl) (by kernel_rfl) ?_
  conv => whnf
  refine ⟨by decide, s[0], atB (by omega), ?_⟩
  conv => whnf
  refine ⟨by decide, ?_⟩
  conv => whnf
  refine ⟨by decide, s[1], atB (by omega), ?_⟩
  conv => whnf
  refine ⟨by decide, ?_⟩
  conv => whnf
  refine ⟨rfl, ?_⟩
  conv => whnf
  refine ⟨by decide, s[2], atB (by omega), ?_⟩
  conv => whnf
  refine ⟨by decide, ?_⟩
  conv => whnf
  refine ⟨rfl, ?_⟩
  conv => whnf
  refine ⟨by decide, s[3], atB (by omega), ?_⟩
  conv => whnf
  refine ⟨rfl, ?_⟩
  conv => whnf
  exact finA ⟨congrArg (fun n : Int => some (AV.lf (.pv (.sc (.int .u32 n))))) ((num4_u32 s[0] s[1] s[2] s[3]).trans (congrArg Int.ofNat (num4_of h).symm))⟩
theorem rdbytes_con (q : ByteArray × Bool) (n : Int) : ConG P 60 [rdr q] [.lf (.ptr 0 0), Go.Rx.I n] (Sx (rdB q n).1) [rdr (rdB q n).2] := by
  obtain ⟨s, bad⟩ := q
  cases bad
  · have eb : rdB (s, false) n = if n < 0 ∨ (s.size : Int) < n then (⟨#[]⟩, (s, true)) else (s.extract 0 n.toNat, (s.extract n.toNat s.size, false)) := by simp [rdB]
    rw [eb]
    refine ConG.of T_ok Try.func60 rfl (by kernel_rfl) (by kernel_rfl) (aw_of T_ok (by kernel_rfl) ?_)
    conv => whnf
    split <;> rename_i h1 <;> conv => whnf
    · have h1' : n < 0 := of_decide_eq_true h1
      rw [if_pos (Or.inl h1')]
      exact ⟨[], [0], _, _, rfl, rfl, rfl, wk_refl _, rfl⟩
    have h1' : ¬ n < 0 := of_decide_eq_false h1
    split <;> rename_i h2 <;> conv => whnf
    · have h2' : (s.size : Int) < n := of_decide_eq_true h2
      rw [if_pos (Or.inr h2')]
      exact ⟨[], [0], _, _, rfl, rfl, rfl, wk_refl _, rfl⟩
    have h2' : ¬ (s.size : Int) < n := of_decide_eq_false h2
    rw [if_neg (by omega)]
    refine ⟨by decide, by omega, by show n ≤ (s.size : Int); omega, ?_⟩
    conv => whnf
    refine ⟨by omega, by show n ≤ (s.size : Int); omega, Int.le_refl _, ?_⟩
    conv => whnf
    exact ⟨[], [0], _, _, rfl, rfl, rfl, wk_refl _, rfl⟩
  · have eb : rdB (s, true) n = (⟨#[]⟩, (s, true)) := by simp [rdB]
    rw [eb]
    refine ConG.of T_ok Try.func60 rfl (by kernel_rfl) (by kernel_rfl) (aw_of T_ok (by kernel_rfl) ?_)
    conv => whnf
    exact ⟨[], [0], _, _, rfl, rfl, rfl, wk_refl _, rfl⟩
theorem sgn_i32 {n : Nat} (h : n < 4294967296) : IntKind.i64.wrap (IntKind.i32.wrap n) = sgn n := by
  have e : ∀ y : Int, IntKind.i32.wrap y = if 2147483648 ≤ y % 4294967296 then y % 4294967296 - 4294967296 else y % 4294967296 := fun y => by
    simp [IntKind.wrap, IntKind.bits, IntKind.signed]
  rw [e, sgn]
  split <;> split <;> first | omega | rw [wrapI (by omega)]; omega
theorem rdB4 {q : ByteArray × Bool} (h : ¬ (rdB q 4).2.2 = true) : 4 ≤ (rdB q 4).1.size ∧ (rdB q 4).1.size ≤ 4 := by
  by_cases c : q.2 = true ∨ (4 : Int) < 0 ∨ (q.1.size : Int) < 4
  · rw [rdB, if_pos c] at h; simp at h
  · rw [rdB, if_neg c]
    show 4 ≤ (q.1.extract 0 4).size ∧ (q.1.extract 0 4).size ≤ 4
    rw [ByteArray.size_extract]
    have : ¬ (q.1.size : Int) < 4 := fun x => c (.inr (.inr x))
    omega
theorem rdnum_con (q : ByteArray × Bool) : ConG P 45 [rdr q] [.lf (.ptr 0 0)] (Go.Rx.I (rdN q).1) [rdr (rdN q).2] := by
  have h4 := rdB4 (q := q)
  have en : rdN q = if (rdB q 4).2.2 then (0, (rdB q 4).2) else (sgn (num4 (rdB q 4).1.data.toList), (rdB q 4).2) := rfl
  have hr := rdbytes_con q 4
  generalize rdB q 4 = x at en h4 hr
  obtain ⟨t, s, bad⟩ := x
  rw [en]
  cases bad
  · refine ConG.of T_ok Try.func45 rfl (by kernel_rfl) (by kernel_rfl) (aw_of T_ok (by kernel_rfl) ?_)
    conv => whnf
    refine ⟨[0], _, _, _, _, _, nodupB_ok rfl, rfl, rfl, wk_refl _, hr, ?_⟩
    conv => whnf
    refine callS (sealnum_con t (h4 (by simp)).1) rfl ?_
    conv => whnf
    exact ⟨[], [0], _, _, rfl, rfl, rfl, wk_refl _, congrArg (fun n => some (Go.Rx.I n)) (sgn_i32 (num4_lt t.data.toList))⟩
  · refine ConG.of T_ok Try.func45 rfl (by kernel_rfl) (by kernel_rfl) (aw_of T_ok (by kernel_rfl) ?_)
    conv => whnf
    refine ⟨[0], _, _, _, _, _, nodupB_ok rfl, rfl, rfl, wk_refl _, hr, ?_⟩
    conv => whnf
    exact ⟨[], [0], _, _, rfl, rfl, rfl, wk_refl _, rfl⟩
theorem rdtext_con (q : ByteArray × Bool) : ConG P 61 [rdr q] [.lf (.ptr 0 0)] (Sx (rdT q).1) [rdr (rdT q).2] := by
  refine ConG.of T_ok Try.func61 rfl (by kernel_rfl) (by kernel_rfl) (aw_of T_ok (by kernel_rfl) ?_)
  conv => whnf
  refine ⟨[0], _, _, _, _, _, nodupB_ok rfl, rfl, rfl, wk_refl _, rdnum_con q, ?_⟩
  conv => whnf
  refine ⟨[0], _, _, _, _, _, nodupB_ok rfl, rfl, rfl, wk_refl _, rdbytes_con (rdN q).2 (rdN q).1, ?_⟩
  conv => whnf
  exact ⟨[], [0], _, _, rfl, rfl, rfl, wk_refl _, rfl⟩
end Go.Proofs.Yteebnpkoephjnaa.Rx

/- A frame taken: the code's and the page's. -/
set_option linter.unusedVariables false
set_option linter.unusedSimpArgs false
namespace Go.Rx
def unf (s : ByteArray) : ByteArray × ByteArray × Bool :=
  if s.size < 8 ∨ 4000 < num4 s.data.toList ∨ s.size < num4 s.data.toList + 8 ∨ num4 (s.extract 4 s.size).data.toList ≠ chk (s.extract 0 4 ++ s.extract 8 (8 + num4 s.data.toList)).data.toList then (⟨#[]⟩, ⟨#[]⟩, false)
  else (s.extract 8 (8 + num4 s.data.toList), s.extract (8 + num4 s.data.toList) s.size, true)
theorem num_be4 (x : Int) : (num4 (be4 x) : Int) = x % 4294967296 := by
  have f1 : x.fdiv 16777216 = x / 16777216 := Int.fdiv_eq_ediv_of_nonneg _ (by decide)
  have f2 : x.fdiv 65536 = x / 65536 := Int.fdiv_eq_ediv_of_nonneg _ (by decide)
  have f3 : x.fdiv 256 = x / 256 := Int.fdiv_eq_ediv_of_nonneg _ (by decide)
  have b1 := byteZ_nat (x / 16777216)
  have b2 := byteZ_nat (x / 65536)
  have b3 := byteZ_nat (x / 256)
  have b4 := byteZ_nat x
  rw [be4, f1, f2, f3]
  show (((((byteZ (x / 16777216)).toNat * 256 + (byteZ (x / 65536)).toNat) * 256 + (byteZ (x / 256)).toNat) * 256 + (byteZ x).toNat : Nat) : Int) = _
  omega
theorem num4_inj {a b c d e f g h : UInt8} (x : num4 [a, b, c, d] = num4 [e, f, g, h]) : [a, b, c, d] = [e, f, g, h] := by
  have x' : ((a.toNat * 256 + b.toNat) * 256 + c.toNat) * 256 + d.toNat = ((e.toNat * 256 + f.toNat) * 256 + g.toNat) * 256 + h.toNat := x
  have := a.toNat_lt; have := b.toNat_lt; have := c.toNat_lt; have := d.toNat_lt
  have := e.toNat_lt; have := f.toNat_lt; have := g.toNat_lt; have := h.toNat_lt
  have e1 : a = e := UInt8.toNat_inj.1 (by omega)
  have e2 : b = f := UInt8.toNat_inj.1 (by omega)
  have e3 : c = g := UInt8.toNat_inj.1 (by omega)
  have e4 : d = h := UInt8.toNat_inj.1 (by omega)
  rw [e1, e2, e3, e4]
theorem be4_num (a b c d : UInt8) : be4 (num4 [a, b, c, d] : Nat) = [a, b, c, d] := by
  refine num4_inj ?_
  have h := num_be4 (num4 [a, b, c, d] : Nat)
  have := num4_lt [a, b, c, d]
  have e : num4 (be4 (num4 [a, b, c, d] : Nat)) = num4 [a, b, c, d] := by omega
  exact e
theorem num4_cons (a b c d : UInt8) (t : List UInt8) : num4 (a :: b :: c :: d :: t) = num4 [a, b, c, d] := rfl
theorem be4_nat {x : Nat} {e f g h : UInt8} (hx : x < 4294967296) : be4 x = [e, f, g, h] ↔ num4 [e, f, g, h] = x := by
  constructor
  · intro y
    rw [← y]
    have := num_be4 x
    omega
  · intro y
    rw [← y]
    exact be4_num e f g h
theorem list8 {s : ByteArray} (h : 8 ≤ s.size) : ∃ a b c d e f g i t, s.data.toList = a :: b :: c :: d :: e :: f :: g :: i :: t := by
  refine ⟨s[0], s[1], s[2], s[3], s[4], s[5], s[6], s[7], s.data.toList.drop 8, ?_⟩
  rw [← dropB s 7 (by omega), ← dropB s 6 (by omega), ← dropB s 5 (by omega), ← dropB s 4 (by omega), ← dropB s 3 (by omega), ← dropB s 2 (by omega), ← dropB s 1 (by omega), ← dropB s 0 (by omega), List.drop_zero]
theorem bytesOf_eq {s : ByteArray} {l : List UInt8} : bytesOf l = s ↔ l = s.data.toList := by
  constructor
  · intro h; rw [← h]; rfl
  · intro h; rw [h]; rfl
theorem frame_iff {s : ByteArray} (h8 : 8 ≤ s.size) {n : Nat} (hn : num4 s.data.toList = n) (h4 : n ≤ 4000) (hs : n + 8 ≤ s.size) :
    frame (s.extract 8 (8 + n)) = s.extract 0 (8 + n) ↔ num4 (s.extract 4 s.size).data.toList = chk (s.extract 0 4 ++ s.extract 8 (8 + n)).data.toList := by
  have x8 : (s.extract 8 (8 + n)).size = n := by rw [ByteArray.size_extract]; omega
  rw [frame, if_neg (by rw [x8]; omega), bytesOf_eq, frmL, ext_list, ext_list, ext_list, ByteArray.data_append, Array.toList_append, ext_list, ext_list]
  have hL : s.data.toList.length = s.size := rfl
  obtain ⟨a, b, c, d, e, f, g, i, t, hl⟩ := list8 h8
  have ht : t.length + 8 = s.size := by rw [← hL, hl]; rfl
  rw [hl] at hn ⊢
  rw [num4_cons] at hn
  have e1 : 8 + n - 8 = n := by omega
  have e2 : 8 + n - 0 = n + 8 := by omega
  have e3 : s.size - 4 = t.length + 4 := by omega
  rw [e1, e2, e3]
  simp only [List.drop_succ_cons, List.drop_zero, List.take_succ_cons, List.take_zero, Nat.sub_zero, List.cons_append, List.nil_append]
  have e4 : (List.take n t).length = n := by rw [List.length_take]; omega
  have e5 : be4 ((n : Nat) : Int) = [a, b, c, d] := by rw [← hn]; exact be4_num a b c d
  rw [e4, e5, num4_cons, ← be4_nat (by have := chk_lt (a :: b :: c :: d :: List.take n t); omega)]
  simp only [List.cons_append, List.nil_append]
  constructor
  · intro y
    simp only [List.cons.injEq, true_and] at y
    exact List.append_inj_left y rfl
  · intro y
    rw [y]; rfl
theorem bne_of {a b : ByteArray} (h : (a != b) = true) : a ≠ b := by simpa using h
theorem eq_of_bne {a b : ByteArray} (h : (a != b) = false) : a = b := by simpa using h
theorem bne_nat {a b : Nat} (h : ((a : Int) != (b : Int)) = false) : a = b := by
  have : (a : Int) = b := by simpa using h
  omega
abbrev tri (q : ByteArray × ByteArray × Bool) : AV := .tup [.lf (.pv (pS q.1)), .lf (.pv (pS q.2.1)), .lf (.pv (.sc (.bool q.2.2)))]
theorem finT {a b : ByteArray} {n : Bool} {q : ByteArray × ByteArray × Bool} (h : q = (a, b, n)) : ∃ zs, Fa WkA [Sx a, Sx b, Bl n] zs ∧ pack zs = some (tri q) := ⟨_, wk_refl _, by rw [h]; rfl⟩
end Go.Rx
namespace Go.Proofs.Yteebnpkoephjnaa.Rx
open Go.Rx Go.Proofs Go.Proofs.Yteebnpkoephjnaa.RxB
theorem stake_con (s : ByteArray) (hs : okS s) : Con P 44 [Sx s] (tri (unf s)) [] := by
  simp only [okS] at hs
  refine Con.of T_ok Try.func44 rfl (by kernel_rfl) (by kernel_rfl) (aw_of T_ok (by kernel_rfl) ?_)
  conv => whnf
  split <;> rename_i h1 <;> conv => whnf
  · have h1' : s.size < 8 := by have : (s.size : Int) < 8 := of_decide_eq_true h1
                                omega
    exact finT (by rw [unf, if_pos (.inl h1')])
  have h1' : ¬ s.size < 8 := by have : ¬ (s.size : Int) < 8 := of_decide_eq_false h1
                                omega
  have hc := sealnum_con s (by omega)
  have hu : unf s = if 4000 < num4 s.data.toList ∨ s.size < num4 s.data.toList + 8 ∨ num4 (s.extract 4 s.size).data.toList ≠ chk (s.extract 0 4 ++ s.extract 8 (8 + num4 s.data.toList)).data.toList then (⟨#[]⟩, ⟨#[]⟩, false)
      else (s.extract 8 (8 + num4 s.data.toList), s.extract (8 + num4 s.data.toList) s.size, true) := by rw [unf]; simp [h1']
  have hlt := num4_lt s.data.toList
  rw [hu]
  obtain ⟨n, hn⟩ : ∃ n, num4 s.data.toList = n := ⟨_, rfl⟩
  rw [hn] at hc hlt ⊢
  refine callS hc rfl ?_
  conv => whnf
  split <;> rename_i h2 <;> conv => whnf
  · have h2' : 4000 < n := by have : (4000 : Int) < (n : Int) := of_decide_eq_true h2
                              omega
    exact finT (by rw [if_pos (.inl h2')])
  have h2' : ¬ 4000 < n := by have : ¬ (4000 : Int) < (n : Int) := of_decide_eq_false h2
                              omega
  have w1 : IntKind.i64.wrap ((n : Nat) : Int) = (n : Int) := wrapI (by omega)
  have w2 : IntKind.i64.wrap ((s.size : Int) - 8) = (s.size : Int) - 8 := wrapI (by omega)
  split <;> rename_i h3 <;> conv => whnf
  · have h3' : s.size < n + 8 := by have : IntKind.i64.wrap ((s.size : Int) - 8) < IntKind.i64.wrap ((n : Nat) : Int) := of_decide_eq_true h3
                                    omega
    exact finT (by rw [if_pos (.inr (.inl h3'))])
  have h3' : ¬ s.size < n + 8 := by have : ¬ IntKind.i64.wrap ((s.size : Int) - 8) < IntKind.i64.wrap ((n : Nat) : Int) := of_decide_eq_false h3
                                    omega
  have w3 : IntKind.i64.wrap (8 + IntKind.i64.wrap ((n : Nat) : Int)) = ((8 + n : Nat) : Int) := by rw [w1, wrapI (by omega)]; omega
  have w4 : (IntKind.i64.wrap (8 + IntKind.i64.wrap ((n : Nat) : Int))).toNat = 8 + n := by rw [w3]; rfl
  refine AW.draw T_ok rfl (.one 0 (.one 1 (.one 2 (.one 3 (.one 5 (.one 6 (.one 7 (.one 8 (.pre 4 (.one 10 (.one 9 (.one 11 .done)))))))))))) (by kernel_rfl) (by kernel_rfl) ?_
  conv => whnf
  refine ⟨by decide, by rw [w3]; omega, by rw [w3]; omega, ?_⟩
  conv => whnf
  refine ⟨by rw [w3]; omega, by rw [w3]; omega, Int.le_refl _, ?_⟩
  conv => whnf
  refine AW.draw T_ok rfl (.one 0 (.one 3 (.one 5 (.pre 1 (.pre 4 (.one 6 (.one 2 (.one 7 (.one 8 .done))))))))) (by kernel_rfl) (by kernel_rfl) ?_
  conv => whnf
  have x4 : (s.extract 4 s.size).size = s.size - 4 := by rw [ByteArray.size_extract]; omega
  have x04 : (s.extract 0 4).size = 4 := by rw [ByteArray.size_extract]; omega
  have x8 : (s.extract 8 (IntKind.i64.wrap (8 + IntKind.i64.wrap ((n : Nat) : Int))).toNat).size = n := by rw [w4, ByteArray.size_extract]; omega
  refine ⟨by decide, by omega, Int.le_refl _, ?_⟩
  conv => whnf
  refine ⟨by decide, by decide, by omega, ?_⟩
  conv => whnf
  refine ⟨by show (s.extract 0 4).size + (s.extract 8 (IntKind.i64.wrap (8 + IntKind.i64.wrap ((n : Nat) : Int))).toNat).size ≤ _; rw [x04, x8]; omega, ?_⟩
  conv => whnf
  refine callS (sealnum_con (s.extract 4 s.size) (by rw [x4]; omega)) rfl ?_
  conv => whnf
  refine callS (of_con (s.extract 0 4 ++ s.extract 8 (IntKind.i64.wrap (8 + IntKind.i64.wrap ((n : Nat) : Int))).toNat) (by rw [ByteArray.size_append, x04, x8]; omega)) rfl ?_
  conv => whnf
  split <;> rename_i h4 <;> conv => whnf
  · have h4' : num4 (s.extract 4 s.size).data.toList ≠ chk (s.extract 0 4 ++ s.extract 8 (8 + n)).data.toList := by
      rw [← w4]
      intro e
      have : ((num4 (s.extract 4 s.size).data.toList : Int) != (chk (s.extract 0 4 ++ s.extract 8 (IntKind.i64.wrap (8 + IntKind.i64.wrap ((n : Nat) : Int))).toNat).data.toList : Int)) = true := h4
      rw [e] at this
      simp at this
    exact finT (by rw [if_pos (.inr (.inr h4'))])
  · have h4' : num4 (s.extract 4 s.size).data.toList = chk (s.extract 0 4 ++ s.extract 8 (8 + n)).data.toList := by
      rw [← w4]
      exact bne_nat h4
    have h5 : ¬ (4000 < n ∨ s.size < n + 8 ∨ num4 (s.extract 4 s.size).data.toList ≠ chk (s.extract 0 4 ++ s.extract 8 (8 + n)).data.toList) := by
      rintro (h | h | h) <;> first | omega | exact h h4'
    refine finT ?_
    rw [if_neg h5, ← w4]
    rfl
end Go.Proofs.Yteebnpkoephjnaa.Rx

/- A record read: the code's begin. -/
set_option linter.unusedVariables false
set_option linter.unusedSimpArgs false
namespace Go.Rx
abbrev RdS := ByteArray × Bool
def rdStep (q : RdS) : Step × RdS :=
  let a := rdT q; let b := rdN a.2; let c := rdT b.2; let d := rdT c.2; let e := rdT d.2; let f := rdN e.2
  (⟨a.1, b.1, c.1, d.1, e.1, f.1⟩, f.2)
def rdSteps : Nat → RdS → List Step × RdS
  | 0, q => ([], q)
  | k + 1, q => ((rdStep q).1 :: (rdSteps k (rdStep q).2).1, (rdSteps k (rdStep q).2).2)
def begP (q : RdS) : (ByteArray × ByteArray × List Step) × RdS :=
  let a := rdT q; let b := rdT a.2; let m := rdN b.2; let st := rdSteps (min m.1 5).toNat m.2
  ((a.1, b.1, st.1), st.2)
end Go.Rx
namespace Go.Proofs.Yteebnpkoephjnaa.Rx
open Go.Rx Go.Proofs Go.Proofs.Yteebnpkoephjnaa.RxB
set_option maxHeartbeats 1000000 in
theorem begin_con (q : RdS) (kind id n : Int) :
    ConG P 46 [rdr q, .var [.pv (pI kind), .pv (pI id), .pv (pI n), .pv (pS ⟨#[]⟩), .pv (pS ⟨#[]⟩), .own 2 0], .arr 80 6 []] [.lf (.ptr 0 0), .lf (.ptr 1 0)] (.tup [])
      [rdr (begP q).2, .var [.pv (pI kind), .pv (pI id), .pv (pI n), .pv (pS (begP q).1.1), .pv (pS (begP q).1.2.1), .own 2 (begP q).1.2.2.length], .arr 80 6 ((begP q).1.2.2.map Step.enc)] := by
  have hb : begP q = (((rdT q).1, (rdT (rdT q).2).1, (rdSteps (min (rdN (rdT (rdT q).2).2).1 5).toNat (rdN (rdT (rdT q).2).2).2).1), (rdSteps (min (rdN (rdT (rdT q).2).2).1 5).toNat (rdN (rdT (rdT q).2).2).2).2) := rfl
  rw [hb]
  have c1 := rdtext_con q
  generalize rdT q = x1 at c1 hb ⊢
  have c2 := rdtext_con x1.2
  generalize rdT x1.2 = x2 at c2 hb ⊢
  have c3 := rdnum_con x2.2
  generalize rdN x2.2 = x3 at c3 hb ⊢
  obtain ⟨m, q3⟩ := x3
  simp only at c3 ⊢
  refine ConG.of T_ok Try.func46 rfl (by kernel_rfl) (by kernel_rfl) (aw_of T_ok (by kernel_rfl) ?_)
  conv => whnf
  refine ⟨[0], _, _, _, _, _, nodupB_ok rfl, rfl, rfl, wk_refl _, c1, ?_⟩
  conv => whnf
  refine ⟨[0], _, _, _, _, _, nodupB_ok rfl, rfl, rfl, wk_refl _, c2, ?_⟩
  conv => whnf
  refine ⟨[0], _, _, _, _, _, nodupB_ok rfl, rfl, rfl, wk_refl _, c3, ?_⟩
  conv => whnf
  obtain ⟨c, hc⟩ : ∃ c, c = (if (5 : Int) < m then 5 else m) := ⟨_, rfl⟩
  obtain ⟨M, hM⟩ : ∃ M, M = (min m 5).toNat := ⟨_, rfl⟩
  have hcm : M = c.toNat ∧ c ≤ 5 := by rw [hM, hc]; split <;> omega
  rw [← hM] at hb ⊢
  refine AW.loop (fun p : Nat × List Step × RdS => p.1 ≤ M ∧ p.2.1.length = p.1 ∧ (p.2.1 ++ (rdSteps (M - p.1) p.2.2).1, (rdSteps (M - p.1) p.2.2).2) = rdSteps M q3) (fun p => [(0, .lf (.ptr 0 0)), (1, .lf (.ptr 1 0)), (17, Go.Rx.I c), (18, Go.Rx.I p.1)]) (fun p => [rdr p.2.2, .var [.pv (pI kind), .pv (pI id), .pv (pI n), .pv (pS x1.1), .pv (pS x2.1), .own 2 p.2.1.length], .arr 80 6 (p.2.1.map Step.enc)]) (fun p => M - p.1) [] ?_ ?_
  · exact ⟨(0, [], q3), ⟨Nat.zero_le _, rfl, rfl⟩, ⟨rfl, rfl, congrArg Go.Rx.I hc.symm, rfl, trivial⟩, ⟨[], rfl⟩, rfl, rfl⟩
  rintro ⟨k, l, q'⟩ ⟨hk, hl, hinv⟩
  simp only at hk hl hinv
  have wk : IntKind.i64.wrap ((k : Int) + 1) = ((k + 1 : Nat) : Int) := wrapI (by omega)
  have hs : rdStep q' = (⟨(rdT q').1, (rdN (rdT q').2).1, (rdT (rdN (rdT q').2).2).1, (rdT (rdT (rdN (rdT q').2).2).2).1, (rdT (rdT (rdT (rdN (rdT q').2).2).2).2).1, (rdN (rdT (rdT (rdT (rdN (rdT q').2).2).2).2).2).1⟩, (rdN (rdT (rdT (rdT (rdN (rdT q').2).2).2).2).2).2) := rfl
  have d1 := rdtext_con q'
  generalize rdT q' = y1 at d1 hs
  have d2 := rdnum_con y1.2
  generalize rdN y1.2 = y2 at d2 hs
  have d3 := rdtext_con y2.2
  generalize rdT y2.2 = y3 at d3 hs
  have d4 := rdtext_con y3.2
  generalize rdT y3.2 = y4 at d4 hs
  have d5 := rdtext_con y4.2
  generalize rdT y4.2 = y5 at d5 hs
  have d6 := rdnum_con y5.2
  generalize rdN y5.2 = y6 at d6 hs
  refine aw_ofC T_ok 2006 (by kernel_rfl) ?_
  conv => whnf
  split <;> rename_i hlt <;> conv => whnf
  · have hkM : k < M := by have : (k : Int) < c := of_decide_eq_true hlt
                           omega
    have hst : rdSteps (M - k) q' = ((rdStep q').1 :: (rdSteps (M - (k + 1)) (rdStep q').2).1, (rdSteps (M - (k + 1)) (rdStep q').2).2) := by
      rw [show M - k = (M - (k + 1)) + 1 by omega]; rfl
    rw [hst, hs] at hinv
    refine ⟨[0], _, _, _, _, _, nodupB_ok rfl, rfl, rfl, wk_refl _, d1, ?_⟩
    conv => whnf
    refine ⟨[0], _, _, _, _, _, nodupB_ok rfl, rfl, rfl, wk_refl _, d2, ?_⟩
    conv => whnf
    refine AW.meet (fun _ : Unit => True) (fun _ => [(0, .lf (.ptr 0 0)), (1, .lf (.ptr 1 0)), (17, Go.Rx.I c), (18, Go.Rx.I k), (4, .lf (.ptr 3 0))]) (fun _ => [rdr y2.2, .var [.pv (pI kind), .pv (pI id), .pv (pI n), .pv (pS x1.1), .pv (pS x2.1), .own 2 l.length], .arr 80 6 (l.map Step.enc), stepBlk ⟨y1.1, y2.1, ⟨#[]⟩, ⟨#[]⟩, ⟨#[]⟩, 0⟩]) [] ⟨(), trivial, ⟨rfl, rfl, rfl, rfl, rfl, trivial⟩, ⟨[], rfl⟩, rfl, rfl⟩ ?_
    rintro _ _
    refine aw_of T_ok (by kernel_rfl) ?_
    conv => whnf
    refine ⟨[0], _, _, _, _, _, nodupB_ok rfl, rfl, rfl, wk_refl _, d3, ?_⟩
    conv => whnf
    refine ⟨[0], _, _, _, _, _, nodupB_ok rfl, rfl, rfl, wk_refl _, d4, ?_⟩
    conv => whnf
    refine ⟨[0], _, _, _, _, _, nodupB_ok rfl, rfl, rfl, wk_refl _, d5, ?_⟩
    conv => whnf
    refine ⟨[0], _, _, _, _, _, nodupB_ok rfl, rfl, rfl, wk_refl _, d6, ?_⟩
    conv => whnf
    refine AW.meet (fun _ : Unit => True) (fun _ => [(0, .lf (.ptr 0 0)), (1, .lf (.ptr 1 0)), (17, Go.Rx.I c), (18, Go.Rx.I k), (4, .lf (.ptr 3 0))]) (fun _ => [rdr y6.2, .var [.pv (pI kind), .pv (pI id), .pv (pI n), .pv (pS x1.1), .pv (pS x2.1), .own 2 l.length], .arr 80 6 (l.map Step.enc), stepBlk ⟨y1.1, y2.1, y3.1, y4.1, y5.1, y6.1⟩]) [] ⟨(), trivial, ⟨rfl, rfl, rfl, rfl, rfl, trivial⟩, ⟨[], rfl⟩, rfl, rfl⟩ ?_
    rintro _ _
    refine AW.draw T_ok rfl (.one 1 (.one 2 (.one 3 (.one 4 (.one 5 (.pre 0 (.one 6 (.one 7 (.one 8 (.one 9 (.one 10 .done))))))))))) (by kernel_rfl) (by kernel_rfl) ?_
    conv => whnf
    refine ⟨rfl, _, .inl rfl, ?_⟩
    conv => whnf
    refine ⟨by rw [List.length_map], by show (l.length + 1) * 80 ≤ _; omega, ?_⟩
    conv => whnf
    have hM5 : M ≤ 5 := by omega
    refine ⟨(k + 1, l ++ [⟨y1.1, y2.1, y3.1, y4.1, y5.1, y6.1⟩], y6.2), ⟨⟨hkM, by rw [List.length_append, hl]; rfl, ?_⟩, by show M - (k + 1) < M - k; omega⟩, ⟨rfl, rfl, rfl, congrArg Go.Rx.I wk, trivial⟩, ⟨[?b1, ?b2], ?e⟩, rfl, rfl⟩
    case e =>
      show _ = [rdr y6.2, .var [.pv (pI kind), .pv (pI id), .pv (pI n), .pv (pS x1.1), .pv (pS x2.1), .own 2 (l ++ [(⟨y1.1, y2.1, y3.1, y4.1, y5.1, y6.1⟩ : Step)]).length], .arr 80 6 ((l ++ [(⟨y1.1, y2.1, y3.1, y4.1, y5.1, y6.1⟩ : Step)]).map Step.enc)] ++ [_, _]
      rw [List.length_append, List.map_append]
      rfl
    case h_1 =>
      rw [← hinv]
      simp only [List.append_assoc, List.cons_append, List.nil_append]
  · have hkM : k = M := by have : ¬ (k : Int) < c := of_decide_eq_false hlt
                           omega
    have h0 : (l, q') = rdSteps M q3 := by rw [← hinv, hkM, Nat.sub_self]; simp [rdSteps]
    refine ⟨[], [0, 1, 2], [], [], rfl, ?_, rfl, wk_refl _, rfl⟩
    simp only
    rw [← h0]
    rfl
end Go.Proofs.Yteebnpkoephjnaa.Rx

/- A record taken: the code's. -/
set_option linter.unusedVariables false
set_option linter.unusedSimpArgs false
namespace Go.Rx
def zeroR : Rec := ⟨0, 0, 0, ⟨#[]⟩, ⟨#[]⟩, []⟩
abbrev HeadS := (Int × Int × Int) × RdS
def headP (t : ByteArray) : HeadS :=
  let a := rdN (t, false); let b := rdN a.2; let c := rdN b.2; let d := rdN c.2
  ((a.1, b.1, c.1), d.2)
def bodyP (h : HeadS) : Rec × RdS :=
  if h.1.1 = 1 then (⟨h.1.1, h.1.2.1, h.1.2.2, (begP h.2).1.1, (begP h.2).1.2.1, (begP h.2).1.2.2⟩, (begP h.2).2) else (⟨h.1.1, h.1.2.1, h.1.2.2, ⟨#[]⟩, ⟨#[]⟩, []⟩, h.2)
/-- What is read is taken where it is a record and no other bytes stand for it. -/
def goodP (t : ByteArray) (x : Rec × RdS) : Bool := !x.2.2 && recB x.1 && (plainS x.1 == t)
def takeR (s : ByteArray) : Rec × ByteArray × Int :=
  if (unf s).2.2 = true then (if goodP (unf s).1 (bodyP (headP (unf s).1)) = true then ((bodyP (headP (unf s).1)).1, (unf s).2.1, 0) else (zeroR, ⟨#[]⟩, 10)) else (zeroR, ⟨#[]⟩, 10)
abbrev recOA (r : Rec) : List Lf := [.pv (pI r.kind), .pv (pI r.id), .pv (pI r.n), .pv (pS r.key), .pv (pS r.body), .own 0 r.steps.length]
abbrev takeO (p : Rec × ByteArray × Int) : AV := .tup [.agg (recOA p.1), .lf (.pv (pS p.2.1)), .lf (.pv (pI p.2.2))]
theorem rdB_le (q : RdS) (n : Int) : (rdB q n).1.size ≤ q.1.size ∧ (rdB q n).2.1.size ≤ q.1.size := by
  unfold rdB
  split
  · exact ⟨Nat.zero_le _, Nat.le_refl _⟩
  · exact ⟨by show (q.1.extract 0 n.toNat).size ≤ _; rw [ByteArray.size_extract]; omega, by show (q.1.extract n.toNat q.1.size).size ≤ _; rw [ByteArray.size_extract]; omega⟩
theorem rdN_le (q : RdS) : (rdN q).2.1.size ≤ q.1.size := by
  have := (rdB_le q 4).2
  unfold rdN
  split <;> exact this
theorem rdT_le (q : RdS) : (rdT q).1.size ≤ q.1.size ∧ (rdT q).2.1.size ≤ q.1.size := by
  have h1 := rdN_le q
  have h2 := rdB_le (rdN q).2 (rdN q).1
  exact ⟨Nat.le_trans h2.1 h1, Nat.le_trans h2.2 h1⟩
theorem rdStep_le {B : Nat} (hB : B ≤ 140737488351232) (q : RdS) (h : q.1.size ≤ B) : (rdStep q).1.Ok ∧ (rdStep q).2.1.size ≤ B := by
  have a := rdT_le q
  have b := rdN_le (rdT q).2
  have c := rdT_le (rdN (rdT q).2).2
  have d := rdT_le (rdT (rdN (rdT q).2).2).2
  have e := rdT_le (rdT (rdT (rdN (rdT q).2).2).2).2
  have f := rdN_le (rdT (rdT (rdT (rdN (rdT q).2).2).2).2).2
  refine ⟨⟨?_, ?_, ?_, ?_⟩, ?_⟩
  · show (rdT q).1.size ≤ _; omega
  · show (rdT (rdN (rdT q).2).2).1.size ≤ _; omega
  · show (rdT (rdT (rdN (rdT q).2).2).2).1.size ≤ _; omega
  · show (rdT (rdT (rdT (rdN (rdT q).2).2).2).2).1.size ≤ _; omega
  · show (rdN (rdT (rdT (rdT (rdN (rdT q).2).2).2).2).2).2.1.size ≤ _; omega
theorem rdSteps_le {B : Nat} (hB : B ≤ 140737488351232) : ∀ (k : Nat) (q : RdS), q.1.size ≤ B → (rdSteps k q).1.length = k ∧ (∀ x ∈ (rdSteps k q).1, x.Ok) ∧ (rdSteps k q).2.1.size ≤ B
  | 0, q, h => ⟨rfl, fun x hx => (List.not_mem_nil hx).elim, h⟩
  | k + 1, q, h => by
    have h1 := rdStep_le hB q h
    have h2 := rdSteps_le hB k (rdStep q).2 h1.2
    refine ⟨by show (rdSteps k (rdStep q).2).1.length + 1 = k + 1; rw [h2.1], fun x hx => ?_, h2.2.2⟩
    rcases List.mem_cons.1 hx with rfl | hx
    · exact h1.1
    · exact h2.2.1 x hx
theorem body_ok {t : ByteArray} (ht : okS t) : (bodyP (headP t)).1.Ok ∧ (bodyP (headP t)).1.steps.length ≤ 5 := by
  simp only [okS] at ht
  have a := rdN_le (t, false)
  have b := rdN_le (rdN (t, false)).2
  have c := rdN_le (rdN (rdN (t, false)).2).2
  have d := rdN_le (rdN (rdN (rdN (t, false)).2).2).2
  have hq : (headP t).2.1.size ≤ t.size := by
    show (rdN (rdN (rdN (rdN (t, false)).2).2).2).2.1.size ≤ _
    have : (t, false).1.size = t.size := rfl
    omega
  generalize headP t = h at hq
  unfold bodyP
  split
  · have e := rdT_le h.2
    have f := rdT_le (rdT h.2).2
    have g := rdN_le (rdT (rdT h.2).2).2
    have i := rdSteps_le ht (min (rdN (rdT (rdT h.2).2).2).1 5).toNat (rdN (rdT (rdT h.2).2).2).2 (by omega)
    refine ⟨⟨?_, ?_, ⟨?_, i.2.1⟩⟩, ?_⟩
    · show (rdT h.2).1.size ≤ _; omega
    · show (rdT (rdT h.2).2).1.size ≤ _; omega
    · show (rdSteps (min (rdN (rdT (rdT h.2).2).2).1 5).toNat (rdN (rdT (rdT h.2).2).2).2).1.length * 80 ≤ _
      rw [i.1]; omega
    · show (rdSteps (min (rdN (rdT (rdT h.2).2).2).1 5).toNat (rdN (rdT (rdT h.2).2).2).2).1.length ≤ _
      rw [i.1]; omega
  · exact ⟨⟨Nat.zero_le _, Nat.zero_le _, ⟨Nat.zero_le _, fun x hx => by cases hx⟩⟩, Nat.zero_le _⟩
theorem unf_ok {s : ByteArray} (h : okS s) : okS (unf s).1 := by
  simp only [okS] at h ⊢
  unfold unf
  split
  · exact Nat.zero_le _
  · show (s.extract 8 _).size ≤ _
    rw [ByteArray.size_extract]; omega
end Go.Rx
namespace Go.Proofs.Yteebnpkoephjnaa.Rx
open Go.Rx Go.Proofs Go.Proofs.Yteebnpkoephjnaa.RxB
set_option maxHeartbeats 4000000 in
theorem take_con (s : ByteArray) (hs : okS s) : Con P 31 [Sx s] (takeO (takeR s)) [.arr 80 6 ((takeR s).1.steps.map Step.enc)] := by
  have hu := stake_con s hs
  have ht : takeR s = if (unf s).2.2 = true then (if goodP (unf s).1 (bodyP (headP (unf s).1)) = true then ((bodyP (headP (unf s).1)).1, (unf s).2.1, 0) else (zeroR, ⟨#[]⟩, 10)) else (zeroR, ⟨#[]⟩, 10) := rfl
  rw [ht]
  have hto := unf_ok hs
  generalize unf s = u at hu hto
  obtain ⟨t, rest, ok⟩ := u
  cases ok
  · rw [if_neg (by simp)]
    refine ConG.con (ConG.of T_ok Try.func31 rfl (by kernel_rfl) (by kernel_rfl) (aw_of T_ok (by kernel_rfl) ?_)) rfl
    conv => whnf
    refine callS hu rfl ?_
    conv => whnf
    exact ⟨[.cell 0 5 80 6], rfl, [1], [.agg (recOA zeroR), Sx ⟨#[]⟩, Go.Rx.I 10], [.agg (recOA zeroR), Sx ⟨#[]⟩, Go.Rx.I 10], rfl, rfl, rfl, wk_refl _, rfl⟩
  rw [if_pos rfl]
  have hh : headP t = (((rdN (t, false)).1, (rdN (rdN (t, false)).2).1, (rdN (rdN (rdN (t, false)).2).2).1), (rdN (rdN (rdN (rdN (t, false)).2).2).2).2) := rfl
  have c1 := rdnum_con (t, false)
  generalize rdN (t, false) = x1 at c1 hh
  have c2 := rdnum_con x1.2
  generalize rdN x1.2 = x2 at c2 hh
  have c3 := rdnum_con x2.2
  generalize rdN x2.2 = x3 at c3 hh
  have c4 := rdnum_con x3.2
  generalize rdN x3.2 = x4 at c4 hh
  obtain ⟨kind, q1⟩ := x1
  obtain ⟨id, q2⟩ := x2
  obtain ⟨n, q3⟩ := x3
  obtain ⟨zz, q4⟩ := x4
  simp only at c1 c2 c3 c4 hh
  rw [hh]
  simp only
  obtain ⟨res, hres⟩ : ∃ res, (if goodP t (bodyP ((kind, id, n), q4)) = true then ((bodyP ((kind, id, n), q4)).1, rest, (0 : Int)) else (zeroR, ⟨#[]⟩, 10)) = res := ⟨_, rfl⟩
  rw [hres]
  refine ConG.con (ConG.of T_ok Try.func31 rfl (by kernel_rfl) (by kernel_rfl) (aw_ofC T_ok 1007 (by kernel_rfl) ?_)) rfl
  conv => whnf
  refine callS hu rfl ?_
  conv => whnf
  refine ⟨[1], _, _, _, _, _, nodupB_ok rfl, rfl, rfl, wk_refl _, c1, ?_⟩
  conv => whnf
  refine ⟨[1], _, _, _, _, _, nodupB_ok rfl, rfl, rfl, wk_refl _, c2, ?_⟩
  conv => whnf
  refine ⟨[1], _, _, _, _, _, nodupB_ok rfl, rfl, rfl, wk_refl _, c3, ?_⟩
  conv => whnf
  refine ⟨[1], _, _, _, _, _, nodupB_ok rfl, rfl, rfl, wk_refl _, c4, ?_⟩
  conv => whnf
  refine AW.meet (fun _ : Unit => True) (fun _ => [(2, .lf (.ptr 0 0)), (3, Sx rest), (4, Go.Rx.I 0), (5, Sx t), (7, .lf (.ptr 1 0))]) (fun _ => [.var [.pv (pI kind), .pv (pI id), .pv (pI n), .pv (pS ⟨#[]⟩), .pv (pS ⟨#[]⟩), .own 2 0], rdr q4, .arr 80 6 []]) [.cell 0 5 80 6] ⟨rfl, (), trivial, ⟨rfl, rfl, rfl, rfl, rfl, trivial⟩, ⟨[], rfl⟩, rfl, rfl⟩ ?_
  rintro _ _
  refine AW.cut (fun x : Rec × RdS => x = bodyP ((kind, id, n), q4)) (fun x => [(2, .lf (.ptr 0 0)), (3, Sx rest), (4, Go.Rx.I 0), (5, Sx t), (7, .lf (.ptr 1 0))]) (fun x => [.var [.pv (pI x.1.kind), .pv (pI x.1.id), .pv (pI x.1.n), .pv (pS x.1.key), .pv (pS x.1.body), .own 2 x.1.steps.length], rdr x.2, .arr 80 6 (x.1.steps.map Step.enc)]) [] ?_ ?_
  · refine aw_of T_ok (by kernel_rfl) ?_
    conv => whnf
    split <;> rename_i h1 <;> conv => whnf
    · have h1' : kind = 1 := eq_of_beq h1
      refine ⟨[1, 0, 2], _, _, _, _, _, nodupB_ok rfl, rfl, rfl, wk_refl _, begin_con q4 kind id n, ?_⟩
      conv => whnf
      exact ⟨_, rfl, ⟨rfl, rfl, rfl, rfl, rfl, trivial⟩, ⟨[], by rw [bodyP, if_pos h1']; rfl⟩, rfl, rfl⟩
    · have h1' : ¬ kind = 1 := by simpa using h1
      exact ⟨_, rfl, ⟨rfl, rfl, rfl, rfl, rfl, trivial⟩, ⟨[], by rw [bodyP, if_neg h1']; rfl⟩, rfl, rfl⟩
  rintro x hx
  have hbo := body_ok hto
  rw [hh, ← hx] at hbo
  rw [← hx] at hres
  obtain ⟨r, q, bad⟩ := x
  have hrl : (r.steps.map Step.enc).length = r.steps.length := List.length_map ..
  have no : ∀ b : Bool, b = false → (if b = true then (r, rest, (0 : Int)) else (zeroR, ⟨#[]⟩, 10)) = (zeroR, ⟨#[]⟩, 10) := fun b h => by rw [h]; rfl
  cases bad
  rotate_left
  · obtain rfl : (zeroR, ⟨#[]⟩, 10) = res := hres
    refine aw_of T_ok (by kernel_rfl) ?_
    conv => whnf
    exact ⟨[.cell 0 5 80 6], rfl, [3], [.agg (recOA zeroR), Sx ⟨#[]⟩, Go.Rx.I 10], [.agg (recOA zeroR), Sx ⟨#[]⟩, Go.Rx.I 10], rfl, rfl, rfl, wk_refl _, rfl⟩
  have hg : goodP t (r, q, false) = (recB r && (plainS r == t)) := rfl
  rw [hg] at hres
  by_cases hr : recB r = true
  rotate_left
  · obtain rfl : (zeroR, ⟨#[]⟩, 10) = res := (no _ (by simp [hr])).symm.trans hres
    refine aw_of T_ok (by kernel_rfl) ?_
    conv => whnf
    refine ⟨hrl, ?_⟩
    have hc := recMay_con r hbo.1
    rw [show recB r = false by simpa using hr] at hc
    refine callS hc rfl ?_
    conv => whnf
    exact ⟨[.cell 0 5 80 6], rfl, [3], [.agg (recOA zeroR), Sx ⟨#[]⟩, Go.Rx.I 10], [.agg (recOA zeroR), Sx ⟨#[]⟩, Go.Rx.I 10], rfl, rfl, rfl, wk_refl _, rfl⟩
  have hc := recMay_con r hbo.1
  rw [hr] at hc
  refine aw_of T_ok (by kernel_rfl) ?_
  conv => whnf
  refine ⟨hrl, ?_⟩
  refine callS hc rfl ?_
  conv => whnf
  refine ⟨hrl, ?_⟩
  refine callS (spell_con r (small_of hr)) rfl ?_
  conv => whnf
  split <;> rename_i h4 <;> conv => whnf
  · have h4' : plainS r ≠ t := bne_of h4
    obtain rfl : (zeroR, ⟨#[]⟩, 10) = res := (no _ (by simp [h4'])).symm.trans hres
    exact ⟨[.cell 0 5 80 6], rfl, [3], [.agg (recOA zeroR), Sx ⟨#[]⟩, Go.Rx.I 10], [.agg (recOA zeroR), Sx ⟨#[]⟩, Go.Rx.I 10], rfl, rfl, rfl, wk_refl _, rfl⟩
  · have h4' : plainS r = t := eq_of_bne h4
    obtain rfl : (r, rest, 0) = res := (if_pos (by rw [hr, h4']; simp)).symm.trans hres
    exact ⟨[], [2], [.agg (recOA r), Sx rest, Go.Rx.I 0], [.agg (recOA r), Sx rest, Go.Rx.I 0], rfl, rfl, rfl, wk_refl _, rfl⟩
end Go.Proofs.Yteebnpkoephjnaa.Rx

/- What is read: the page reads the same, and what was written is read as it. -/
set_option linter.unusedVariables false
set_option linter.unusedSimpArgs false
namespace Go.Rx
/-- Bad stays bad. -/
theorem rdB_bad {q : RdS} (h : q.2 = true) (n : Int) : rdB q n = (⟨#[]⟩, (q.1, true)) := by rw [rdB, if_pos (.inl h)]
theorem rdN_bad {q : RdS} (h : q.2 = true) : rdN q = (0, (q.1, true)) := by rw [rdN, rdB_bad h]; rfl
theorem rdT_bad {q : RdS} (h : q.2 = true) : rdT q = (⟨#[]⟩, (q.1, true)) := by rw [rdT, rdN_bad h]; rfl
theorem rdStep_bad {q : RdS} (h : q.2 = true) : (rdStep q).2.2 = true := by
  unfold rdStep
  simp only [rdT_bad h, rdN_bad, rdT_bad]
theorem rdSteps_bad : ∀ (k : Nat) {q : RdS}, q.2 = true → (rdSteps k q).2.2 = true
  | 0, q, h => h
  | k + 1, q, h => rdSteps_bad k (rdStep_bad h)
/-- The page's loop over the steps. -/
def rdWhile : Nat → Int → RdS → List Step × RdS
  | 0, _, q => ([], q)
  | f + 1, n, q => if 0 < n ∧ q.2 = false then ((rdStep q).1 :: (rdWhile f (n - 1) (rdStep q).2).1, (rdWhile f (n - 1) (rdStep q).2).2) else ([], q)
theorem while_bad : ∀ (f : Nat) (n : Int) (q : RdS), n ≤ f → (rdWhile f n q).2.2 = (rdSteps n.toNat q).2.2 ∧ ((rdWhile f n q).2.2 = false → rdWhile f n q = rdSteps n.toNat q)
  | 0, n, q, h => by
    have e : n.toNat = 0 := by omega
    rw [e]; exact ⟨rfl, fun _ => rfl⟩
  | f + 1, n, q, h => by
    by_cases hn : 0 < n
    · by_cases hb : q.2 = false
      · have e : n.toNat = (n - 1).toNat + 1 := by omega
        have ih := while_bad f (n - 1) (rdStep q).2 (by omega)
        have w : rdWhile (f + 1) n q = ((rdStep q).1 :: (rdWhile f (n - 1) (rdStep q).2).1, (rdWhile f (n - 1) (rdStep q).2).2) := by rw [rdWhile, if_pos ⟨hn, hb⟩]
        rw [w, e]
        refine ⟨ih.1, fun hg => ?_⟩
        rw [ih.2 hg]; rfl
      · have hb' : q.2 = true := by simpa using hb
        have w : rdWhile (f + 1) n q = ([], q) := by rw [rdWhile, if_neg (fun h => hb h.2)]
        rw [w]
        exact ⟨hb'.trans (rdSteps_bad _ hb').symm, fun hg => absurd hg hb⟩
    · have e : n.toNat = 0 := by omega
      have w : rdWhile (f + 1) n q = ([], q) := by rw [rdWhile, if_neg (fun h => hn h.1)]
      rw [w, e]
      exact ⟨rfl, fun _ => rfl⟩
theorem while_long : ∀ (f : Nat) (n : Int) (q : RdS), (f : Int) ≤ n → (rdWhile f n q).2.2 = false → (rdWhile f n q).1.length = f
  | 0, n, q, h, _ => rfl
  | f + 1, n, q, h, hb => by
    by_cases hq : q.2 = false
    · have w : rdWhile (f + 1) n q = ((rdStep q).1 :: (rdWhile f (n - 1) (rdStep q).2).1, (rdWhile f (n - 1) (rdStep q).2).2) := by rw [rdWhile, if_pos ⟨by omega, hq⟩]
      rw [w] at hb ⊢
      show _ + 1 = _
      rw [while_long f (n - 1) (rdStep q).2 (by omega) hb]
    · have w : rdWhile (f + 1) n q = ([], q) := by rw [rdWhile, if_neg (fun h => hq h.2)]
      rw [w] at hb
      exact absurd hb hq
def begU (q : RdS) : (ByteArray × ByteArray × List Step) × RdS :=
  let a := rdT q; let b := rdT a.2; let m := rdN b.2; let st := rdWhile 6 m.1 m.2
  ((a.1, b.1, st.1), st.2)
def bodyU (h : HeadS) : Rec × RdS :=
  if h.1.1 = 1 then (⟨h.1.1, h.1.2.1, h.1.2.2, (begU h.2).1.1, (begU h.2).1.2.1, (begU h.2).1.2.2⟩, (begU h.2).2) else (⟨h.1.1, h.1.2.1, h.1.2.2, ⟨#[]⟩, ⟨#[]⟩, []⟩, h.2)
def unpR (s : ByteArray) : Rec × ByteArray × Bool :=
  if (unf s).2.2 = true then (if goodP (unf s).1 (bodyU (headP (unf s).1)) = true then ((bodyU (headP (unf s).1)).1, (unf s).2.1, true) else (zeroR, ⟨#[]⟩, false)) else (zeroR, ⟨#[]⟩, false)
/-- What was read stands ahead of what is left. -/
theorem rdN_eat {q : RdS} (h : (rdN q).2.2 = false) : q.2 = false ∧ q.1.data.toList = be4 (rdN q).1 ++ (rdN q).2.1.data.toList ∧ -2147483648 ≤ (rdN q).1 ∧ (rdN q).1 < 2147483648 := by
  by_cases hq : q.2 = true
  · rw [rdN_bad hq] at h; cases h
  have hq' : q.2 = false := by simpa using hq
  by_cases hs : q.1.size < 4
  · have e : rdB q 4 = (⟨#[]⟩, (q.1, true)) := by rw [rdB, if_pos (.inr (.inr (by omega)))]
    rw [rdN, e] at h; cases h
  · have e : rdB q 4 = (q.1.extract 0 4, (q.1.extract 4 q.1.size, q.2)) := by
      rw [rdB, if_neg]
      · rfl
      · rintro (x | x | x)
        · exact hq x
        · omega
        · omega
    have e2 : rdN q = (sgn (num4 (q.1.extract 0 4).data.toList), (q.1.extract 4 q.1.size, q.2)) := by
      rw [rdN, e]; show (if q.2 = true then _ else _) = _; rw [if_neg hq]
    rw [e2]
    have hlt := num4_lt (q.1.extract 0 4).data.toList
    refine ⟨hq', ?_, ?_, ?_⟩
    · show q.1.data.toList = be4 (sgn (num4 (q.1.extract 0 4).data.toList)) ++ (q.1.extract 4 q.1.size).data.toList
      have hl : q.1.data.toList = q.1[0] :: q.1[1] :: q.1[2] :: q.1[3] :: q.1.data.toList.drop 4 := by
        rw [← dropB q.1 3 (by omega), ← dropB q.1 2 (by omega), ← dropB q.1 1 (by omega), ← dropB q.1 0 (by omega), List.drop_zero]
      have hs2 : (q.1.extract 4 q.1.size).data.toList = q.1.data.toList.drop 4 := by
        rw [ext_list, List.take_of_length_le]
        rw [List.length_drop]; exact Nat.le_refl _
      have hs1 : (q.1.extract 0 4).data.toList = [q.1[0], q.1[1], q.1[2], q.1[3]] := by
        rw [ext_list, List.drop_zero, hl]; rfl
      rw [hs1, hs2]
      have e5 : be4 (sgn (num4 [q.1[0], q.1[1], q.1[2], q.1[3]])) = [q.1[0], q.1[1], q.1[2], q.1[3]] := by
        refine num4_inj ?_
        have h1 := num_be4 (sgn (num4 [q.1[0], q.1[1], q.1[2], q.1[3]]))
        have h2 := num4_lt [q.1[0], q.1[1], q.1[2], q.1[3]]
        have h3 : (num4 (be4 (sgn (num4 [q.1[0], q.1[1], q.1[2], q.1[3]]))) : Int) = num4 [q.1[0], q.1[1], q.1[2], q.1[3]] := by
          rw [h1, sgn]; split <;> omega
        have h4 : num4 (be4 (sgn (num4 [q.1[0], q.1[1], q.1[2], q.1[3]]))) = num4 [q.1[0], q.1[1], q.1[2], q.1[3]] := by omega
        exact h4
      rw [e5]
      exact hl
    · show -2147483648 ≤ sgn _
      rw [sgn]; split <;> omega
    · show sgn _ < 2147483648
      rw [sgn]; split <;> omega
theorem rdT_eat {q : RdS} (h : (rdT q).2.2 = false) : q.2 = false ∧ q.1.data.toList = txtL (rdT q).1 ++ (rdT q).2.1.data.toList := by
  have e : rdT q = rdB (rdN q).2 (rdN q).1 := rfl
  by_cases c : (rdN q).2.2 = true ∨ (rdN q).1 < 0 ∨ ((rdN q).2.1.size : Int) < (rdN q).1
  · rw [e, rdB, if_pos c] at h; cases h
  have e2 : rdT q = ((rdN q).2.1.extract 0 (rdN q).1.toNat, ((rdN q).2.1.extract (rdN q).1.toNat (rdN q).2.1.size, (rdN q).2.2)) := by rw [e, rdB, if_neg c]
  have hn : (rdN q).2.2 = false := by
    cases hx : (rdN q).2.2 with
    | false => rfl
    | true => exact absurd (.inl hx) c
  have h1 := rdN_eat hn
  have c1 : ¬ (rdN q).1 < 0 := fun x => c (.inr (.inl x))
  have c2 : ¬ ((rdN q).2.1.size : Int) < (rdN q).1 := fun x => c (.inr (.inr x))
  refine ⟨h1.1, ?_⟩
  rw [e2, h1.2.1]
  generalize rdN q = x at *
  obtain ⟨v, s, b⟩ := x
  simp only at c1 c2 ⊢
  have sz : (s.extract 0 v.toNat).size = v.toNat := by rw [ByteArray.size_extract]; omega
  rw [txtL, sz, show ((v.toNat : Nat) : Int) = v by omega, List.append_assoc, ext_list, ext_list, List.drop_zero, Nat.sub_zero]
  rw [List.take_of_length_le (l := s.data.toList.drop v.toNat) (by rw [List.length_drop]; exact Nat.le_refl _), List.take_append_drop]
end Go.Rx

/- The page's reading is the code's. -/
set_option linter.unusedVariables false
set_option linter.unusedSimpArgs false
namespace Go.Rx
theorem good_iff {t : ByteArray} {x : Rec × RdS} : goodP t x = true ↔ x.2.2 = false ∧ recB x.1 = true ∧ plainS x.1 = t := by
  unfold goodP
  rw [Bool.and_eq_true, Bool.and_eq_true]
  constructor
  · rintro ⟨⟨h1, h2⟩, h3⟩; exact ⟨by simpa using h1, h2, eq_of_beq h3⟩
  · rintro ⟨h1, h2, h3⟩; exact ⟨⟨by rw [h1]; rfl, h2⟩, by rw [h3]; simp⟩
theorem not_bad {f : RdS → Bool} {q : RdS} (hb : q.2 = true → f q = true) (h : f q = false) : q.2 = false := by
  cases hq : q.2 with
  | false => rfl
  | true => rw [hb hq] at h; cases h
theorem body1 {h : HeadS} (k : h.1.1 = 1) : bodyP h = (⟨h.1.1, h.1.2.1, h.1.2.2, (begP h.2).1.1, (begP h.2).1.2.1, (begP h.2).1.2.2⟩, (begP h.2).2) := by rw [bodyP, if_pos k]
theorem bodyU1 {h : HeadS} (k : h.1.1 = 1) : bodyU h = (⟨h.1.1, h.1.2.1, h.1.2.2, (begU h.2).1.1, (begU h.2).1.2.1, (begU h.2).1.2.2⟩, (begU h.2).2) := by rw [bodyU, if_pos k]
/-- The number of steps that stands there is that of the steps. -/
theorem count_is {t : ByteArray} (k : (headP t).1.1 = 1) (h : goodP t (bodyP (headP t)) = true) : (rdN (rdT (rdT (headP t).2).2).2).1 ≤ 5 := by
  rw [good_iff, body1 k] at h
  obtain ⟨h1, h2, h3⟩ := h
  have hb : (begP (headP t).2).2 = (rdSteps (min (rdN (rdT (rdT (headP t).2).2).2).1 5).toNat (rdN (rdT (rdT (headP t).2).2).2).2).2 := rfl
  have n1 : (rdN (rdT (rdT (headP t).2).2).2).2.2 = false := not_bad (f := fun q => (rdSteps (min (rdN (rdT (rdT (headP t).2).2).2).1 5).toNat q).2.2) (rdSteps_bad _) (by rw [hb] at h1; exact h1)
  have a1 := rdN_eat n1
  have a2 := rdT_eat a1.1
  have a3 := rdT_eat a2.1
  have hh : headP t = (((rdN (t, false)).1, (rdN (rdN (t, false)).2).1, (rdN (rdN (rdN (t, false)).2).2).1), (rdN (rdN (rdN (rdN (t, false)).2).2).2).2) := rfl
  have a4 := rdN_eat (q := (rdN (rdN (rdN (t, false)).2).2).2) a3.1
  have a5 := rdN_eat a4.1
  have a6 := rdN_eat a5.1
  have a7 := rdN_eat a6.1
  have e : plainL ⟨(headP t).1.1, (headP t).1.2.1, (headP t).1.2.2, (begP (headP t).2).1.1, (begP (headP t).2).1.2.1, (begP (headP t).2).1.2.2⟩ = t.data.toList := congrArg (fun z : ByteArray => z.data.toList) h3
  have e1 : t.data.toList = be4 (rdN (t, false)).1 ++ (be4 (rdN (rdN (t, false)).2).1 ++ (be4 (rdN (rdN (rdN (t, false)).2).2).1 ++ (be4 (rdN (rdN (rdN (rdN (t, false)).2).2).2).1 ++ (txtL (rdT (headP t).2).1 ++ (txtL (rdT (rdT (headP t).2).2).1 ++ (be4 (rdN (rdT (rdT (headP t).2).2).2).1 ++ (rdN (rdT (rdT (headP t).2).2).2).2.1.data.toList)))))) := by
    have a4' : (rdN (rdN (rdN (t, false)).2).2).2.1.data.toList = be4 (rdN (rdN (rdN (rdN (t, false)).2).2).2).1 ++ (headP t).2.1.data.toList := a4.2.1
    rw [← a1.2.1, ← a2.2, ← a3.2, ← a4', ← a5.2.1, ← a6.2.1]
    exact a7.2.1
  have e2 : plainL ⟨(headP t).1.1, (headP t).1.2.1, (headP t).1.2.2, (begP (headP t).2).1.1, (begP (headP t).2).1.2.1, (begP (headP t).2).1.2.2⟩ = be4 (rdN (t, false)).1 ++ (be4 (rdN (rdN (t, false)).2).1 ++ (be4 (rdN (rdN (rdN (t, false)).2).2).1 ++ (be4 0 ++ (txtL (rdT (headP t).2).1 ++ (txtL (rdT (rdT (headP t).2).2).1 ++ (be4 ((begP (headP t).2).1.2.2.length : Int) ++ (begP (headP t).2).1.2.2.flatMap stepL1)))))) := by
    rw [plainL, if_pos k, headL, moreL]
    simp only [numsL, List.flatMap_cons, List.flatMap_nil, List.append_nil, List.append_assoc]
    rfl
  rw [e1, e2] at e
  have x1 := List.append_inj_right e rfl
  have x2 := List.append_inj_right x1 rfl
  have x3 := List.append_inj_right x2 rfl
  have x4 := List.append_inj_right x3 rfl
  have x5 := List.append_cancel_left x4
  have x6 := List.append_cancel_left x5
  have x7 := List.append_inj_left x6 rfl
  have y1 := num_be4 ((begP (headP t).2).1.2.2.length : Int)
  have y2 := num_be4 (rdN (rdT (rdT (headP t).2).2).2).1
  rw [x7, y2] at y1
  have l5 : (begP (headP t).2).1.2.2.length ≤ 5 := (small_of h2).len
  have r1 := a1.2.2.1
  have r2 := a1.2.2.2
  omega
theorem good_long {t : ByteArray} (k : (headP t).1.1 = 1) (h : goodP t (bodyU (headP t)) = true) : (rdN (rdT (rdT (headP t).2).2).2).1 ≤ 5 := by
  rw [good_iff, bodyU1 k] at h
  obtain ⟨h1, h2, h3⟩ := h
  have l5 : (begU (headP t).2).1.2.2.length ≤ 5 := (small_of h2).len
  rcases (show 5 < (rdN (rdT (rdT (headP t).2).2).2).1 ∨ (rdN (rdT (rdT (headP t).2).2).2).1 ≤ 5 by omega) with c | c
  · have := while_long 6 (rdN (rdT (rdT (headP t).2).2).2).1 (rdN (rdT (rdT (headP t).2).2).2).2 (by omega) h1
    have l6 : (begU (headP t).2).1.2.2.length = 6 := this
    omega
  · exact c
theorem good_same (t : ByteArray) : goodP t (bodyU (headP t)) = goodP t (bodyP (headP t)) ∧ (goodP t (bodyP (headP t)) = true → bodyU (headP t) = bodyP (headP t)) := by
  by_cases k : (headP t).1.1 = 1
  · have main : (rdN (rdT (rdT (headP t).2).2).2).1 ≤ 5 → (bodyU (headP t)).2.2 = (bodyP (headP t)).2.2 ∧ ((bodyU (headP t)).2.2 = false → bodyU (headP t) = bodyP (headP t)) := fun c => by
      have hw := while_bad 6 (rdN (rdT (rdT (headP t).2).2).2).1 (rdN (rdT (rdT (headP t).2).2).2).2 (by omega)
      have hm : min (rdN (rdT (rdT (headP t).2).2).2).1 5 = (rdN (rdT (rdT (headP t).2).2).2).1 := by omega
      rw [body1 k, bodyU1 k]
      have ep : begP (headP t).2 = (((rdT (headP t).2).1, (rdT (rdT (headP t).2).2).1, (rdSteps (rdN (rdT (rdT (headP t).2).2).2).1.toNat (rdN (rdT (rdT (headP t).2).2).2).2).1), (rdSteps (rdN (rdT (rdT (headP t).2).2).2).1.toNat (rdN (rdT (rdT (headP t).2).2).2).2).2) := by
        show (((rdT (headP t).2).1, (rdT (rdT (headP t).2).2).1, (rdSteps (min (rdN (rdT (rdT (headP t).2).2).2).1 5).toNat (rdN (rdT (rdT (headP t).2).2).2).2).1), (rdSteps (min (rdN (rdT (rdT (headP t).2).2).2).1 5).toNat (rdN (rdT (rdT (headP t).2).2).2).2).2) = _
        rw [hm]
      have eu : begU (headP t).2 = (((rdT (headP t).2).1, (rdT (rdT (headP t).2).2).1, (rdWhile 6 (rdN (rdT (rdT (headP t).2).2).2).1 (rdN (rdT (rdT (headP t).2).2).2).2).1), (rdWhile 6 (rdN (rdT (rdT (headP t).2).2).2).1 (rdN (rdT (rdT (headP t).2).2).2).2).2) := rfl
      rw [ep, eu]
      refine ⟨hw.1, fun hg => ?_⟩
      rw [hw.2 hg]
    have fwd : goodP t (bodyP (headP t)) = true → bodyU (headP t) = bodyP (headP t) := fun h => by
      have m := main (count_is k h)
      exact m.2 (m.1.trans (good_iff.1 h).1)
    have bwd : goodP t (bodyU (headP t)) = true → bodyU (headP t) = bodyP (headP t) := fun h => by
      have m := main (good_long k h)
      exact m.2 (good_iff.1 h).1
    refine ⟨?_, fwd⟩
    cases h1 : goodP t (bodyP (headP t)) with
    | true => rw [fwd h1]; exact h1
    | false =>
      cases h2 : goodP t (bodyU (headP t)) with
      | false => rfl
      | true => rw [bwd h2, h1] at h2; cases h2
  · have e : bodyU (headP t) = bodyP (headP t) := by rw [bodyU, bodyP, if_neg k, if_neg k]
    rw [e]; exact ⟨rfl, fun _ => rfl⟩
/-- Both take the same. -/
theorem unp_take (s : ByteArray) : (unpR s).1 = (takeR s).1 ∧ (unpR s).2.1 = (takeR s).2.1 ∧ (takeR s).2.2 = (if (unpR s).2.2 = true then 0 else 10) := by
  unfold unpR takeR
  have h := good_same (unf s).1
  rw [h.1]
  by_cases c : (unf s).2.2 = true
  · rw [if_pos c, if_pos c]
    by_cases d : goodP (unf s).1 (bodyP (headP (unf s).1)) = true
    · rw [if_pos d, if_pos d, h.2 d]; exact ⟨rfl, rfl, rfl⟩
    · rw [if_neg d, if_neg d]; exact ⟨rfl, rfl, rfl⟩
  · rw [if_neg c, if_neg c]; exact ⟨rfl, rfl, rfl⟩
end Go.Rx

/- What was written is read as it. -/
set_option linter.unusedVariables false
set_option linter.unusedSimpArgs false
namespace Go.Rx
abbrev i32B (v : Int) : Prop := -2147483648 ≤ v ∧ v < 2147483648
theorem ext_bytes (l : List UInt8) (i j : Nat) : (bytesOf l).extract i j = bytesOf ((l.drop i).take (j - i)) := by
  symm
  rw [bytesOf_eq, ext_list]
  rfl
theorem rdB_put (a l : List UInt8) : rdB (bytesOf (a ++ l), false) a.length = (bytesOf a, (bytesOf l, false)) := by
  rw [rdB, if_neg]
  · show ((bytesOf (a ++ l)).extract 0 ((a.length : Int)).toNat, ((bytesOf (a ++ l)).extract ((a.length : Int)).toNat (bytesOf (a ++ l)).size, false)) = _
    have e : ((a.length : Int)).toNat = a.length := by omega
    have e2 : (bytesOf (a ++ l)).size = a.length + l.length := by rw [bytesOf_size, List.length_append]
    rw [e, e2, ext_bytes, ext_bytes, List.drop_zero, Nat.sub_zero, List.take_left', List.drop_left', List.take_of_length_le]
    · omega
    · rfl
    · rfl
  · rintro (h | h | h)
    · cases h
    · omega
    · have : ((bytesOf (a ++ l)).size : Int) < a.length := h
      rw [bytesOf_size, List.length_append] at this; omega
theorem rdN_put {v : Int} (hv : i32B v) (l : List UInt8) : rdN (bytesOf (be4 v ++ l), false) = (v, (bytesOf l, false)) := by
  have e : rdB (bytesOf (be4 v ++ l), false) 4 = (bytesOf (be4 v), (bytesOf l, false)) := rdB_put (be4 v) l
  have h1 := num_be4 v
  rw [rdN, e]
  show (sgn (num4 (be4 v)), _) = _
  have : sgn (num4 (be4 v)) = v := by
    obtain ⟨hv1, hv2⟩ := hv
    rw [sgn]; split <;> omega
  rw [this]
theorem rdT_put {s : ByteArray} (hs : s.size < 2147483648) (l : List UInt8) : rdT (bytesOf (txtL s ++ l), false) = (s, (bytesOf l, false)) := by
  have e : rdN (bytesOf (txtL s ++ l), false) = ((s.size : Int), (bytesOf (s.data.toList ++ l), false)) := by
    rw [txtL, List.append_assoc]; exact rdN_put (by constructor <;> omega) _
  rw [rdT, e]
  exact rdB_put s.data.toList l
structure StepR (x : Step) : Prop where
  sv : i32B x.service
  n : i32B x.n
  nm : x.nm.size < 2147483648
  op : x.op.size < 2147483648
  un : x.undo.size < 2147483648
  wh : x.who.size < 2147483648
theorem rdStep_put {x : Step} (h : StepR x) (l : List UInt8) : rdStep (bytesOf (stepL1 x ++ l), false) = (x, (bytesOf l, false)) := by
  have e : stepL1 x ++ l = txtL x.nm ++ (be4 x.service ++ (txtL x.op ++ (txtL x.undo ++ (txtL x.who ++ (be4 x.n ++ l))))) := by
    simp only [stepL1, List.append_assoc]
  rw [e]
  unfold rdStep
  simp only [rdT_put h.nm, rdN_put h.sv, rdT_put h.op, rdT_put h.un, rdT_put h.wh, rdN_put h.n]
theorem rdSteps_put : ∀ {s : List Step} (h : ∀ x ∈ s, StepR x) (l : List UInt8), rdSteps s.length (bytesOf (s.flatMap stepL1 ++ l), false) = (s, (bytesOf l, false))
  | [], h, l => rfl
  | x :: s, h, l => by
    have e : (x :: s).flatMap stepL1 ++ l = stepL1 x ++ (s.flatMap stepL1 ++ l) := by rw [List.flatMap_cons, List.append_assoc]
    rw [e]
    show ((rdStep (bytesOf (stepL1 x ++ (s.flatMap stepL1 ++ l)), false)).1 :: (rdSteps s.length (rdStep (bytesOf (stepL1 x ++ (s.flatMap stepL1 ++ l)), false)).2).1, _) = _
    rw [rdStep_put (h x (by simp)), rdSteps_put fun y hy => h y (by simp [hy])]
structure RecR (r : Rec) : Prop where
  kind : i32B r.kind
  id : i32B r.id
  n : i32B r.n
  key : r.key.size < 2147483648
  body : r.body.size < 2147483648
  len : r.steps.length ≤ 5
  st : ∀ x ∈ r.steps, StepR x
  bare : ¬ r.kind = 1 → r.key = ⟨#[]⟩ ∧ r.body = ⟨#[]⟩ ∧ r.steps = []
theorem ops_in {n : Int} {s : ByteArray} (h : (opsS n).any (s == ·) = true) : 1 ≤ n ∧ n ≤ 4 := by
  obtain ⟨y, hy, e⟩ := List.any_eq_true.1 h
  unfold opsS at hy
  repeat' split at hy
  all_goals first | (constructor <;> omega) | exact (List.not_mem_nil hy).elim
theorem rec_range {r : Rec} (h : recB r = true) : RecR r := by
  have sm := small_of h
  unfold recB at h
  rw [Bool.and_eq_true] at h
  obtain ⟨h1, h2⟩ := h
  simp only [Bool.and_eq_true, decide_eq_true_eq] at h1
  by_cases k : r.kind = 1
  · rw [if_pos k] at h2
    unfold begB at h2
    simp only [Bool.and_eq_true, decide_eq_true_eq, beq_iff_eq, stepsB] at h2
    have hb := sm.body
    have hk := sm.key
    refine ⟨by constructor <;> omega, by constructor <;> omega, by have := h2.1; constructor <;> omega, by omega, by omega, sm.len, fun x hx => ?_, fun c => absurd k c⟩
    have z := sm.st x hx
    obtain ⟨j, hj, rfl⟩ := List.mem_iff_getElem.1 hx
    have h3 := List.all_eq_true.1 h2.2.2.2.2.2.1 j (List.mem_range.2 hj)
    rw [okAt_eq hj] at h3
    simp only [Bool.and_eq_true, okStep, pairB, numB, decide_eq_true_eq] at h3
    have a2 := ops_in h3.1.1.1.2.1.1
    have a3 := h3.1.2
    exact ⟨by constructor <;> omega, by constructor <;> omega, by omega, by omega, by omega, by omega⟩
  · rw [if_neg k] at h2
    simp only [Bool.and_eq_true, bareB, beq_iff_eq, decide_eq_true_eq] at h2
    have e := List.eq_nil_of_length_eq_zero h2.1.2
    have h3 := h2.2
    unfold kindB at h3
    have hkn : i32B r.kind ∧ i32B r.n := by
      split at h3
      · rename_i c
        simp only [Bool.and_eq_true, decide_eq_true_eq] at h3
        constructor <;> constructor <;> omega
      · split at h3
        · simp only [beq_iff_eq] at h3
          constructor <;> constructor <;> omega
        · split at h3
          · simp only [Bool.and_eq_true, decide_eq_true_eq] at h3
            constructor <;> constructor <;> omega
          · cases h3
    exact ⟨hkn.1, by constructor <;> omega, hkn.2, by rw [h2.1.1.1]; decide, by rw [h2.1.1.2]; decide, by rw [e]; decide, (fun x hx => by rw [e] at hx; cases hx), fun _ => ⟨h2.1.1.1, h2.1.1.2, e⟩⟩
theorem head_put {r : Rec} (h : RecR r) (l : List UInt8) : headP (bytesOf (headL r ++ l)) = ((r.kind, r.id, r.n), (bytesOf l, false)) := by
  have e : headL r ++ l = be4 r.kind ++ (be4 r.id ++ (be4 r.n ++ (be4 0 ++ l))) := by
    rw [headL]; simp [numsL]
  rw [e]
  unfold headP
  simp only [rdN_put h.kind, rdN_put h.id, rdN_put h.n, rdN_put (v := 0) (by constructor <;> omega)]
theorem body_put {r : Rec} (h : RecR r) : bodyP (headP (plainS r)) = (r, (bytesOf [], false)) := by
  by_cases k : r.kind = 1
  · have e : plainS r = bytesOf (headL r ++ (moreL r ++ r.steps.flatMap stepL1)) := by rw [plainS, plainL, if_pos k, List.append_assoc]
    rw [e, head_put h, body1 k]
    have e2 : moreL r ++ r.steps.flatMap stepL1 = txtL r.key ++ (txtL r.body ++ (be4 r.steps.length ++ (r.steps.flatMap stepL1 ++ []))) := by
      rw [moreL]; simp
    have hl := h.len
    have m : (min (r.steps.length : Int) 5).toNat = r.steps.length := by omega
    have eb : begP (bytesOf (moreL r ++ r.steps.flatMap stepL1), false) = ((r.key, r.body, r.steps), (bytesOf [], false)) := by
      rw [e2]
      unfold begP
      simp only [rdT_put h.key, rdT_put h.body, rdN_put (v := (r.steps.length : Int)) (by constructor <;> omega), m, rdSteps_put h.st]
    rw [eb]
  · obtain ⟨b1, b2, b3⟩ := h.bare k
    have e : plainS r = bytesOf (headL r ++ []) := by rw [plainS, plainL, if_neg k, List.append_nil]
    rw [e, head_put h, bodyP, if_neg k]
    obtain ⟨kind, id, n, key, body, steps⟩ := r
    simp only at b1 b2 b3
    subst b1 b2 b3
    rfl
theorem good_put {r : Rec} (h : recB r = true) : goodP (plainS r) (bodyP (headP (plainS r))) = true := by
  rw [good_iff, body_put (rec_range h)]
  exact ⟨rfl, h, rfl⟩
/-- A frame that was made is taken apart. -/
theorem unf_put {p : ByteArray} (h : p.size ≤ 4000) (b : ByteArray) : unf (frame p ++ b) = (p, b, true) := by
  have e : frame p ++ b = bytesOf (be4 p.size ++ (be4 (chk (be4 p.size ++ p.data.toList)) ++ (p.data.toList ++ b.data.toList))) := by
    rw [frame, if_neg (by omega), frmL]
    have e1 : p.data.toList.length = p.size := rfl
    rw [e1]
    symm
    rw [bytesOf_eq, ByteArray.data_append, Array.toList_append]
    simp [bytesOf]
  have hp : p.data.toList.length = p.size := rfl
  have hb : b.data.toList.length = b.size := rfl
  generalize hc : chk (be4 p.size ++ p.data.toList) = c at e
  have hlt : c < 4294967291 := hc ▸ chk_lt _
  rw [e]
  have sz : (bytesOf (be4 p.size ++ (be4 (c : Int) ++ (p.data.toList ++ b.data.toList)))).size = 8 + p.size + b.size := by
    rw [bytesOf_size]; simp only [List.length_append, be4_len, hp, hb]; omega
  have n1 : num4 (bytesOf (be4 p.size ++ (be4 (c : Int) ++ (p.data.toList ++ b.data.toList)))).data.toList = p.size := by
    show num4 (be4 p.size ++ _) = _
    rw [← num4_take, List.take_left' (be4_len _)]
    have := num_be4 p.size
    omega
  have x8 : (bytesOf (be4 p.size ++ (be4 (c : Int) ++ (p.data.toList ++ b.data.toList)))).extract 8 (8 + p.size) = p := by
    rw [ext_bytes, ← List.append_assoc, List.drop_left' (by rw [List.length_append]; rfl), show 8 + p.size - 8 = p.size by omega, List.take_left' hp]; rfl
  have x9 : (bytesOf (be4 p.size ++ (be4 (c : Int) ++ (p.data.toList ++ b.data.toList)))).extract (8 + p.size) (8 + p.size + b.size) = b := by
    rw [ext_bytes, ← List.append_assoc, ← List.append_assoc, List.drop_left' (by rw [List.length_append, List.length_append]; rfl), List.take_of_length_le (by rw [hb]; omega)]; rfl
  have x04 : (bytesOf (be4 p.size ++ (be4 (c : Int) ++ (p.data.toList ++ b.data.toList)))).extract 0 4 = bytesOf (be4 p.size) := by
    rw [ext_bytes, List.drop_zero, List.take_left' (be4_len _)]
  have x4 : num4 ((bytesOf (be4 p.size ++ (be4 (c : Int) ++ (p.data.toList ++ b.data.toList)))).extract 4 (8 + p.size + b.size)).data.toList = c := by
    rw [ext_bytes, List.drop_left' (be4_len _), bytesOf_data]
    rw [← num4_take, List.take_take, show min 4 (8 + p.size + b.size - 4) = 4 by omega, List.take_left' (be4_len _)]
    have := num_be4 c
    omega
  rw [unf, sz, n1, x8, x9, x04, x4, if_neg]
  rintro (h1 | h1 | h1 | h1)
  · omega
  · omega
  · omega
  · apply h1
    rw [← hc, ByteArray.data_append, Array.toList_append]
    rfl
theorem take_put {r : Rec} (h : recB r = true) (hs : (plainS r).size ≤ 4000) (b : ByteArray) : takeR (frame (plainS r) ++ b) = (r, b, 0) := by
  rw [takeR, unf_put hs b, if_pos rfl, if_pos (good_put h), body_put (rec_range h)]
end Go.Rx

/- The arguments of the records' laws, opened. -/
namespace Go.Proofs.Yteebnpkoephjnaa.Rx
open Go.Rx Go.Rx.Lift Go.Proofs

theorem opStr : Opens P 9 (fun s : ByteArray => [pS s]) (fun s => s.size ≤ 140737488351232) := opens_string Try.underlying9
theorem opInt : Opens P 3 (fun n : Int => [pI n]) (fun n => (Lit.int .i64 n).wf = true) := opens_int Try.underlying3
theorem opBool : Opens P 4 (fun b : Bool => [pB b]) (fun _ => True) := opens_bool Try.underlying4
theorem opStep : Opens P 80 Step.enc Step.Ok := by
  have h := opens_struct (total := 6) Try.underlying80 (by kernel_rfl) (from_cons 1 rfl rfl (by kernel_rfl) opStr (from_cons 1 rfl rfl (by kernel_rfl) opInt (from_cons 1 rfl rfl (by kernel_rfl) opStr (from_cons 1 rfl rfl (by kernel_rfl) opStr (from_cons 1 rfl rfl (by kernel_rfl) opStr (from_last 1 rfl rfl (by kernel_rfl) rfl opInt))))))
  exact opens_iso (fun q : ByteArray × Int × ByteArray × ByteArray × ByteArray × Int => ⟨q.1, q.2.1, q.2.2.1, q.2.2.2.1, q.2.2.2.2.1, q.2.2.2.2.2⟩) (fun _ => rfl) (fun _ h => ⟨h.1, h.2.2.1, h.2.2.2.1, h.2.2.2.2.1⟩) h
theorem opSteps : Opens P 40 (fun l : List Step => [encSteps l]) StepsOk := by
  have h := opens_slice (sz := 6) (B := 80) Try.underlying40 (by kernel_rfl) (by decide) (by kernel_rfl) opStep
  exact opens_iso id (fun _ => rfl) (fun _ h => ⟨h.1, h.2⟩) h
theorem opRec : Opens P 42 Rec.enc Rec.Ok := by
  have h := opens_struct (total := 6) Try.underlying42 (by kernel_rfl) (from_cons 1 rfl rfl (by kernel_rfl) opInt (from_cons 1 rfl rfl (by kernel_rfl) opInt (from_cons 1 rfl rfl (by kernel_rfl) opInt (from_cons 1 rfl rfl (by kernel_rfl) opStr (from_cons 1 rfl rfl (by kernel_rfl) opStr (from_last 1 rfl rfl (by kernel_rfl) rfl opSteps))))))
  exact opens_iso (fun q : Int × Int × Int × ByteArray × ByteArray × List Step => ⟨q.1, q.2.1, q.2.2.1, q.2.2.2.1, q.2.2.2.2.1, q.2.2.2.2.2⟩) (fun _ => rfl) (fun _ h => ⟨h.2.2.2.1, h.2.2.2.2.1, h.2.2.2.2.2⟩) h
theorem opAsk2 : Opens P 26 (fun q : List ByteArray × List Int => [encStrs q.1, encInts q.2]) (fun q => (q.1.length * 16 ≤ 140737488351232 ∧ ∀ s ∈ q.1, okS s) ∧ q.2.length * 8 ≤ 140737488351232) := by
  have h := opens_struct (total := 2) Try.underlying26 (by kernel_rfl) (from_cons 1 rfl rfl (by kernel_rfl) (opens_slice (sz := 1) (B := 16) Try.underlying23 (by kernel_rfl) (by decide) (by kernel_rfl) opStr) (from_last 1 rfl rfl (by kernel_rfl) rfl (opens_slice (sz := 1) (B := 8) Try.underlying24 (by kernel_rfl) (by decide) (by kernel_rfl) opInt)))
  exact opens_iso id (fun _ => rfl) (fun _ h => ⟨h.1, h.2.1⟩) h
theorem opAsk11 : Opens P 28 (fun q : List Rec × List ByteArray × List Int => [encRecs q.1, encStrs q.2.1, encInts q.2.2]) (fun q => (q.1.length * 80 ≤ 140737488351232 ∧ ∀ r ∈ q.1, r.Ok) ∧ (q.2.1.length * 16 ≤ 140737488351232 ∧ ∀ s ∈ q.2.1, okS s) ∧ q.2.2.length * 8 ≤ 140737488351232) := by
  have h := opens_struct (total := 3) Try.underlying28 (by kernel_rfl) (from_cons 1 rfl rfl (by kernel_rfl) (opens_slice (sz := 6) (B := 80) Try.underlying22 (by kernel_rfl) (by decide) (by kernel_rfl) opRec) (from_last 2 rfl rfl (by kernel_rfl) rfl opAsk2))
  exact opens_iso id (fun _ => rfl) (fun _ h => h) h
end Go.Proofs.Yteebnpkoephjnaa.Rx

/- What was written is taken as it: the law's body. -/
set_option linter.unusedVariables false
set_option linter.unusedSimpArgs false
namespace Go.Rx
structure Ask11 (R : List Rec) (S : List ByteArray) : Prop where
  len : R.length * 80 ≤ 140737488351232
  each : ∀ r ∈ R, r.Ok
  strs : S.length * 16 ≤ 140737488351232
  txt : ∀ s ∈ S, okS s
abbrev encAsk11 (R : List Rec) (S : List ByteArray) (N : List Int) : AV := .agg [.pv (encRecs R), .pv (encStrs S), .pv (encInts N)]
abbrev ask11V (R : List Rec) (S : List ByteArray) (N : List Int) : Blk := .var [.pv (encRecs R), .pv (encStrs S), .pv (encInts N)]
def behind : ByteArray := ⟨#[98, 101, 104, 105, 110, 100]⟩
theorem bytes_ok {r : Rec} (h : (bytesR r).2 = 0) : recB r = true ∧ (plainS r).size ≤ 4000 ∧ (bytesR r).1 = frame (plainS r) := by
  unfold bytesR at h ⊢
  by_cases c : recB r = true
  · rw [if_pos c] at h ⊢
    unfold frmR at h ⊢
    by_cases d : 4000 < (plainS r).size
    · rw [if_pos d] at h; cases h
    · rw [if_neg d]; exact ⟨c, by omega, rfl⟩
  · rw [if_neg c] at h; cases h
theorem frame_size {p : ByteArray} (h : p.size ≤ 4000) : (frame p).size = p.size + 8 := by
  rw [frame, if_neg (by omega), bytesOf_size, frmL]
  have : p.data.toList.length = p.size := rfl
  simp only [List.length_append, be4_len, this]; omega
theorem bare_size {r : Rec} (h : ¬ r.kind = 1) : (plainS r).size = 16 := by
  rw [plainS, plainL, if_neg h]; rfl
end Go.Rx
namespace Go.Proofs.Yteebnpkoephjnaa.Rx
open Go.Rx Go.Proofs Go.Proofs.Yteebnpkoephjnaa.RxB
theorem abortR_ok : (⟨4, 3, 0, ⟨#[]⟩, ⟨#[]⟩, []⟩ : Rec).Ok := ⟨Nat.zero_le _, Nat.zero_le _, ⟨Nat.zero_le _, fun x hx => (List.not_mem_nil hx).elim⟩⟩
theorem abortR_b : recB ⟨4, 3, 0, ⟨#[]⟩, ⟨#[]⟩, []⟩ = true := by decide
end Go.Proofs.Yteebnpkoephjnaa.Rx

/- A record taken: the page's. -/
set_option linter.unusedVariables false
set_option linter.unusedSimpArgs false
namespace Go.Rx
abbrev unpO (p : Rec × ByteArray × Bool) : AV := .tup [.agg (recOA p.1), .lf (.pv (pS p.2.1)), .lf (.pv (.sc (.bool p.2.2)))]
abbrev zeroV : Blk := .var [.pv (pI 0), .pv (pI 0), .pv (pI 0), .pv (pS ⟨#[]⟩), .pv (pS ⟨#[]⟩), .pv (.sc (.slice none 0 0))]
theorem while_stop {f : Nat} {n : Int} {q : RdS} (h : ¬ 0 < n ∨ q.2 = true) : rdWhile f n q = ([], q) := by
  cases f with
  | zero => rfl
  | succ f =>
    rw [rdWhile, if_neg]
    rintro ⟨h1, h2⟩
    rcases h with h | h
    · exact h h1
    · rw [h] at h2; cases h2
theorem rdN_rng (q : RdS) : -2147483648 ≤ (rdN q).1 ∧ (rdN q).1 < 2147483648 := by
  have hlt := num4_lt (rdB q 4).1.data.toList
  unfold rdN
  split
  · exact ⟨by show (-2147483648 : Int) ≤ 0; decide, by show (0 : Int) < 2147483648; decide⟩
  · show -2147483648 ≤ sgn _ ∧ sgn _ < 2147483648
    rw [sgn]; split <;> omega
theorem rdWhile_le {B : Nat} (hB : B ≤ 140737488351232) : ∀ (k : Nat) (n : Int) (q : RdS), q.1.size ≤ B → (rdWhile k n q).1.length ≤ k ∧ (∀ x ∈ (rdWhile k n q).1, x.Ok)
  | 0, n, q, h => ⟨Nat.le_refl _, fun x hx => (List.not_mem_nil hx).elim⟩
  | k + 1, n, q, h => by
    have h1 := rdStep_le hB q h
    have h2 := rdWhile_le hB k (n - 1) (rdStep q).2 h1.2
    rw [rdWhile]
    split
    · refine ⟨Nat.succ_le_succ h2.1, fun x hx => ?_⟩
      rcases List.mem_cons.1 hx with rfl | hx
      · exact h1.1
      · exact h2.2 x hx
    · exact ⟨Nat.zero_le _, fun x hx => (List.not_mem_nil hx).elim⟩
theorem bodyU_ok {t : ByteArray} (ht : okS t) : (bodyU (headP t)).1.Ok := by
  simp only [okS] at ht
  have a := rdN_le (t, false)
  have b := rdN_le (rdN (t, false)).2
  have c := rdN_le (rdN (rdN (t, false)).2).2
  have d := rdN_le (rdN (rdN (rdN (t, false)).2).2).2
  have hq : (headP t).2.1.size ≤ t.size := by
    show (rdN (rdN (rdN (rdN (t, false)).2).2).2).2.1.size ≤ _
    have : (t, false).1.size = t.size := rfl
    omega
  generalize headP t = h at hq
  unfold bodyU
  split
  · have e := rdT_le h.2
    have f := rdT_le (rdT h.2).2
    have g := rdN_le (rdT (rdT h.2).2).2
    have i := rdWhile_le ht 6 (rdN (rdT (rdT h.2).2).2).1 (rdN (rdT (rdT h.2).2).2).2 (by omega)
    refine ⟨?_, ?_, ⟨?_, i.2⟩⟩
    · show (rdT h.2).1.size ≤ _; omega
    · show (rdT (rdT h.2).2).1.size ≤ _; omega
    · show (rdWhile 6 (rdN (rdT (rdT h.2).2).2).1 (rdN (rdT (rdT h.2).2).2).2).1.length * 80 ≤ _
      omega
  · exact ⟨Nat.zero_le _, Nat.zero_le _, ⟨Nat.zero_le _, fun x hx => (List.not_mem_nil hx).elim⟩⟩
end Go.Rx
namespace Go.Proofs.Yteebnpkoephjnaa.Rx
open Go.Rx Go.Proofs Go.Proofs.Yteebnpkoephjnaa.RxB
theorem bk_to {K : List Blk → Prop} {b : List Blk} (b' : List Blk) (h : b = b') (k : K b') : K b := h ▸ k
abbrev unpB (kind id n : Int) (key body : ByteArray) (l : List Step) (q : RdS) : List Blk := [zeroV, rdr q, .var [.pv (pI kind), .pv (pI id), .pv (pI n), .pv (pS key), .pv (pS body), .own 3 l.length], .arr 80 6 (l.map Step.enc)]
theorem unpB_eq (kind id n : Int) (key body : ByteArray) (l : List Step) (x : Step) (q : RdS) (z : Blk) :
    [zeroV, rdr q, .var [.pv (pI kind), .pv (pI id), .pv (pI n), .pv (pS key), .pv (pS body), .own 3 (l.length + 1)], .arr 80 6 (l.map Step.enc ++ [x.enc]), z] = unpB kind id n key body (l ++ [x]) q ++ [z] := by
  rw [unpB, List.length_append, List.map_append]; rfl
end Go.Proofs.Yteebnpkoephjnaa.Rx

/- What is known of slots, said of values that stand for more. -/
set_option linter.unusedVariables false
namespace Go.Rx
open Go.RowKit
def agreeW (sl : Slots) : List (Nat × AV) → Prop
  | [] => True
  | (t, x) :: l => WkA (sl t) x ∧ agreeW sl l
theorem agreeW_get {sl : Slots} : ∀ {S : List (Nat × AV)} {t : Nat}, agreeW sl S → mkS S t = .un ∨ WkA (sl t) (mkS S t)
  | [], t, _ => .inl rfl
  | (t0, x) :: S, t, h => by
    by_cases e : t = t0
    · subst e
      right
      have : mkS ((t, x) :: S) t = x := by simp [mkS, List.lookup]
      rw [this]; exact h.1
    · have : mkS ((t0, x) :: S) t = mkS S t := by
        have hb : (t == t0) = false := by simpa using e
        simp [mkS, List.lookup, hb]
      rw [this]
      exact agreeW_get h.2
theorem AW.wk {P : Program} {n : Fr} {c : Code} {Q : Post} {sl : Slots} {bk : List Blk} (S : List (Nat × AV)) (h : agreeW sl S) (hm : AW P n c Q (mkS S) bk) : AW P n c Q sl bk := by
  refine ⟨fun C G a w hn hr => hm.out C G a w hn ⟨hr.size, hr.dfr, fun t => ?_, hr.mem⟩⟩
  rcases agreeW_get (t := t) h with h1 | h1
  · rw [h1]; trivial
  · exact wkA_rep h1 (hr.slots t)
end Go.Rx

/- Blocks renamed, at a place and where ways meet. -/
set_option linter.unusedVariables false
set_option linter.unusedSimpArgs false
namespace Go.Rx
open Go.RowKit
def renS (idx : List Nat) : List (Nat × AV) → Option (List (Nat × AV))
  | [] => some []
  | (t, x) :: l => match renA idx x, renS idx l with | some y, some ys => some ((t, y) :: ys) | _, _ => none
theorem renS_get {sl : Slots} {idx : List Nat} : ∀ {S S' : List (Nat × AV)} {t : Nat}, agree sl S → renS idx S = some S' → mkS S' t = .un ∨ renA idx (sl t) = some (mkS S' t)
  | [], S', t, _, h => by cases h; exact .inl rfl
  | (t0, x) :: S, S', t, ha, h => by
    unfold renS at h
    split at h
    · rename_i y ys hy hys
      cases h
      by_cases e : t = t0
      · subst e
        right
        have : mkS ((t, y) :: ys) t = y := by simp [mkS, List.lookup]
        rw [this, ha.1]; exact hy
      · have : mkS ((t0, y) :: ys) t = mkS ys t := by
          have hb : (t == t0) = false := by simpa using e
          simp [mkS, List.lookup, hb]
        rw [this]
        exact renS_get ha.2 hys
    · cases h
/-- What is known, told of these blocks alone, in this order. -/
def SelK (m : Nat) (idx : List Nat) (S : List (Nat × AV)) (sl : Slots) (bk : List Blk) (K : Slots → List Blk → Prop) : Prop :=
  agree sl S ∧ (nodupB idx && (Nat.ble m idx.length && heads 0 (idx.take m))) = true ∧ ∃ S' B, renS idx S = some S' ∧ pickB idx bk idx = some B ∧ K (mkS S') B
theorem Rel.sel {C : Ctx} {G : Gh} {sl : Slots} {bk : List Blk} {a : Act} {w : World} {m : Nat} (hr : Rel C G sl bk a w) (hm : C.m = m) {idx : List Nat} {S : List (Nat × AV)} {K : Slots → List Blk → Prop} (h : SelK m idx S sl bk K) :
    ∃ G' sl' bk', K sl' bk' ∧ Rel C G' sl' bk' a w := by
  obtain ⟨ha, hx, S', B, hS, hB, hk⟩ := h
  simp only [Bool.and_eq_true] at hx
  subst hm
  obtain ⟨m2, rep⟩ := hr.mem.sel (nodupB_ok hx.1) hB (Nat.le_of_ble_eq_true hx.2.1) hx.2.2
  refine ⟨G.pick idx, _, B, hk, hr.size, hr.dfr, fun t => ?_, m2⟩
  rcases renS_get (t := t) ha hS with h1 | h1
  · rw [h1]; trivial
  · have h0 := hr.slots t
    generalize mkS S' t = y at h1
    generalize sl t = x at h1 h0
    have h2 : renAs idx [x] = some [y] := by simp [renAs, h1]
    exact (renAs_rep rep h2 (us := [_]) ⟨h0, trivial⟩).1
theorem AW.sel {P : Program} {n : Fr} {c : Code} {Q : Post} {sl : Slots} {bk : List Blk} (idx : List Nat) (S : List (Nat × AV)) (h : SelK n.m idx S sl bk fun sl bk => AW P n c Q sl bk) : AW P n c Q sl bk := by
  refine ⟨fun C G a w hn hr => ?_⟩
  obtain ⟨G', sl', bk', hk, hr'⟩ := hr.sel hn.2 h
  exact hk.out C G' a w hn hr'
/-- Ways meet where their blocks are named unlike. -/
theorem AW.cutS {P : Program} {n : Fr} {sl : Slots} {bk : List Blk} {α : Type} (I : α → Prop) (S : α → List (Nat × AV)) (B : α → List Blk) {x y : Code} {Q : Post}
    (hx : AW P n x (thenQ (fun sl bk => ∃ idx S0, SelK n.m idx S0 sl bk fun sl bk => ∃ ns, nilsK ns sl bk (Meets n.m I S B)) Q) sl bk) (hm : ∀ i, I i → AW P n y Q (mkS (S i)) (B i)) : AW P n (.seq x y) Q sl bk := by
  refine ⟨fun C G a w hn hr => ?_⟩
  refine wp_seq (wp_mono (hx.out C G a w hn hr) fun e a w ⟨G', sl', bk', hk, h'⟩ => ?_)
  cases e <;> first
    | exact ⟨G', sl', bk', hk, h'⟩
    | skip
  obtain ⟨idx, S0, hs⟩ := hk
  obtain ⟨G2, sl2, bk2, ⟨ns, hk2⟩, h2⟩ := h'.sel hn.2 hs
  obtain ⟨G1, sl1, bk1, ⟨i, hi, hf⟩, h1⟩ := nilsK_sound h2 hk2
  exact (hm i hi).out C G1 a w hn (h1.fits hn.2 hf)
end Go.Rx

/- Small functions that several layers share: numbers within bounds, copies of texts, what writes over steps. -/
set_option linter.unusedVariables false
set_option linter.unusedSimpArgs false
namespace Go.Rx
def within (i n : Int) : Int := IntKind.i64.wrap (IntKind.u64.wrap i % IntKind.u64.wrap n)
theorem u64_wrap (n : Int) : IntKind.u64.wrap n = n % 18446744073709551616 := rfl
theorem within_lt {i n : Int} (h : 0 < n ∧ n ≤ 1073741824) : 0 ≤ within i n ∧ within i n < n := by
  rw [within, u64_wrap, u64_wrap, show n % 18446744073709551616 = n by omega]
  have h1 := Int.emod_nonneg (i % 18446744073709551616) (show n ≠ 0 by omega)
  have h2 := Int.emod_lt_of_pos (i % 18446744073709551616) (show 0 < n by omega)
  rw [wrapI (by omega)]
  exact ⟨h1, h2⟩
def spoilt : Step := ⟨⟨#[115, 112, 111, 105, 108, 116]⟩, 0, ⟨#[]⟩, ⟨#[]⟩, ⟨#[]⟩, 0⟩
theorem set_next {α β : Type} {e : α → β} {x : β} {l : List α} {k : Nat} (h : k < l.length) : ((l.take k).map (fun _ => x) ++ (l.drop k).map e).set (k : Int).toNat x = (l.take (k + 1)).map (fun _ => x) ++ (l.drop (k + 1)).map e := by
  have h1 : ((l.take k).map (fun _ => x)).length = k := by rw [List.length_map, List.length_take]; omega
  rw [Int.toNat_natCast, List.set_append_right _ _ (by omega), h1, Nat.sub_self, List.drop_eq_getElem_cons h, List.take_succ_eq_append_getElem h, List.map_append, List.map_cons, List.set_cons_zero, List.append_assoc]
  rfl
end Go.Rx
namespace Go.Proofs.Yteebnpkoephjnaa.Rx
open Go.Rx Go.Proofs

theorem within_con (i n : Int) (h : 0 < n ∧ n ≤ 1073741824) : Con P 11 [I i, I n] (I (within i n)) [] := by
  refine Con.of T_ok Try.func11 rfl (by kernel_rfl) (by kernel_rfl) (aw_of T_ok (by kernel_rfl) ?_)
  conv => whnf
  refine ⟨by rw [u64_wrap]; omega, by rw [u64_wrap]; omega, ?_⟩
  conv => whnf
  exact finI ⟨rfl⟩
end Go.Proofs.Yteebnpkoephjnaa.Rx

/- Records as bytes, and back; a byte another one: plain words, and what is kept free. -/
set_option linter.unusedVariables false
set_option linter.unusedSimpArgs false
namespace Go.Rx
def reserveP (n : Int) : Int × Int := if 1 ≤ n ∧ n ≤ 5 then (24 * (3 * n + 2), 0) else (0, 1)
abbrev strRows (L : List ByteArray) : List (List PV) := L.map fun s => [pS s]
theorem plain_le {r : Rec} (h : SmallR r) : 16 ≤ (plainS r).size ∧ (plainS r).size ≤ 8000 := by
  have h1 := more_len h
  have h2 := steps_len h.st
  have h3 := h.len
  have e : (plainS r).size = (plainL r).length := bytesOf_size _
  rw [e, plainL]
  split
  · simp only [List.length_append, head_len]; omega
  · rw [head_len]; omega
theorem frame_le (p : ByteArray) : (frame p).size ≤ 4008 := by
  rw [frame]
  split
  · exact Nat.zero_le _
  · rw [bytesOf_size, frmL]
    have : p.data.toList.length = p.size := rfl
    simp only [List.length_append, be4_len, this]; omega
theorem nine_eq {r : Rec} (h : recB r = true) : bytesR r = ((bytes9R r).1, if (bytes9R r).2 = true then 0 else 2) ∧ (bytes9R r).1.size ≤ 4008 ∧ ((bytes9R r).2 = false → (bytes9R r).1 = ⟨#[]⟩) := by
  rw [bytesR, if_pos h, frmR, bytes9R]
  split
  · exact ⟨rfl, Nat.zero_le _, fun _ => rfl⟩
  · exact ⟨rfl, frame_le _, fun h => by cases h⟩
/-- One byte is another. -/
theorem rows_set (l : List UInt8) (i : Nat) (x : Int) : (rowsB l).set i [.sc (.int .u8 (IntKind.u8.wrap x))] = byteRows (bytesOf (l.set i (byteZ x))) := by
  rw [byteZ_wrap, ← rowsB_back, rowsB, rowsB, List.map_set]
end Go.Rx
namespace Go.Proofs.Yteebnpkoephjnaa.Rx
open Go.Rx Go.Proofs Go.Proofs.Yteebnpkoephjnaa.RxB
end Go.Proofs.Yteebnpkoephjnaa.Rx

/- Records as bytes, and back: the law's body. -/
set_option linter.unusedVariables false
set_option linter.unusedSimpArgs false
namespace Go.Rx
abbrev recVb (r : Rec) : Blk := .var [.pv (pI r.kind), .pv (pI r.id), .pv (pI r.n), .pv (pS r.key), .pv (pS r.body), .pv (encSteps r.steps)]
theorem take_len {s : ByteArray} (h : okS s) : (takeR s).1.steps.length ≤ 5 := by
  rw [takeR]
  split
  · split
    · exact (body_ok (unf_ok h)).2
    · exact Nat.zero_le _
  · exact Nat.zero_le _
def okL (L : List ByteArray) : Prop := ∀ s ∈ L, okS s
theorem okL_app {L M : List ByteArray} (h : okL L) (k : okL M) : okL (L ++ M) := fun s hs => by
  rcases List.mem_append.1 hs with h1 | h1
  · exact h s h1
  · exact k s h1
theorem rows_app (L M : List ByteArray) : strRows (L ++ M) = strRows L ++ strRows M := List.map_append
theorem chk_ok (may : Bool) : (((if may = true then (0 : Int) else 1) == 0) != may) = false := by cases may <;> rfl
end Go.Rx
theorem neq_self (n : Int) : (n != n) = false := by simp
namespace Go.Proofs.Yteebnpkoephjnaa.Rx
open Go.Rx Go.Proofs Go.Proofs.Yteebnpkoephjnaa.RxB
abbrev txtB (L : List ByteArray) : Blk := .arr 9 1 (strRows L)
end Go.Proofs.Yteebnpkoephjnaa.Rx

/- Records behind each other: what bytes begin with, plain. -/
set_option linter.unusedVariables false
set_option linter.unusedSimpArgs false
namespace Go.Rx
theorem ba_ext {a b : ByteArray} (h : a.data.toList = b.data.toList) : a = b := ByteArray.ext (Array.toList_inj.mp h)
theorem ba_app (a b : ByteArray) : (a ++ b).data.toList = a.data.toList ++ b.data.toList := by rw [ByteArray.data_append, Array.toList_append]
theorem ba_len (a : ByteArray) : a.data.toList.length = a.size := rfl
theorem ba_ex (s : ByteArray) (i j : Nat) : (s.extract i j).data.toList = (s.data.toList.drop i).take (j - i) := ext_list s i j
theorem ba_assoc (a b c : ByteArray) : a ++ b ++ c = a ++ (b ++ c) := ba_ext (by simp only [ba_app, List.append_assoc])
theorem ba_nil (a : ByteArray) : a ++ ⟨#[]⟩ = a := ba_ext (by rw [ba_app]; simp)
theorem ba_nil' (a : ByteArray) : (⟨#[]⟩ : ByteArray) ++ a = a := ba_ext (by rw [ba_app]; rfl)
theorem ba_split (s : ByteArray) (k : Nat) (h : k ≤ s.size) : s = s.extract 0 k ++ s.extract k s.size := ba_ext (by
  rw [ba_app, ba_ex, ba_ex, Nat.sub_zero, List.drop_zero, List.take_of_length_le (l := List.drop k s.data.toList) (by rw [List.length_drop, ba_len]; omega), List.take_append_drop])
theorem ba_left (a b : ByteArray) : (a ++ b).extract 0 a.size = a := ba_ext (by rw [ba_ex, ba_app, List.drop_zero, Nat.sub_zero, List.take_left' (ba_len a)])
theorem ba_right (a b : ByteArray) : (a ++ b).extract a.size (a ++ b).size = b := ba_ext (by
  rw [ba_ex, ba_app, List.drop_left' (ba_len a), List.take_of_length_le (by rw [ba_len, ByteArray.size_append]; omega)])
/-- A record whose bytes may be. -/
structure GoodR (r : Rec) : Prop where
  b : recB r = true
  le : (plainS r).size ≤ 4000
abbrev frR (r : Rec) : ByteArray := frame (plainS r)
def catR : List Rec → ByteArray
  | [] => ⟨#[]⟩
  | r :: l => frR r ++ catR l
theorem catR_app : ∀ (a b : List Rec), catR (a ++ b) = catR a ++ catR b
  | [], b => (ba_nil' _).symm
  | r :: a, b => by show frR r ++ catR (a ++ b) = frR r ++ catR a ++ catR b; rw [catR_app a b, ba_assoc]
theorem catR_one (r : Rec) : catR [r] = frR r := ba_nil _
def scanG : Nat → ByteArray → List Rec × ByteArray
  | 0, s => ([], s)
  | f + 1, s => if (takeR s).2.2 = 0 then ((takeR s).1 :: (scanG f (takeR s).2.1).1, (scanG f (takeR s).2.1).2) else ([], s)
def scanS (s : ByteArray) : List Rec × ByteArray := scanG (s.size + 1) s
def scanN (s : ByteArray) : Nat := s.size - (scanS s).2.size
theorem unf_eat {s : ByteArray} (h : (unf s).2.2 = true) : s = frame (unf s).1 ++ (unf s).2.1 ∧ (unf s).1.size ≤ 4000 := by
  unfold unf at h ⊢
  split at h
  · cases h
  rename_i hc
  rw [if_neg hc]
  simp only [not_or] at hc
  obtain ⟨h1, h2, h3, h4⟩ := hc
  have h5 : num4 (s.extract 4 s.size).data.toList = chk (s.extract 0 4 ++ s.extract 8 (8 + num4 s.data.toList)).data.toList := Classical.byContradiction h4
  have hf := (frame_iff (s := s) (by omega) rfl (by omega) (by omega)).2 h5
  refine ⟨?_, ?_⟩
  · show s = frame (s.extract 8 (8 + num4 s.data.toList)) ++ s.extract (8 + num4 s.data.toList) s.size
    rw [hf]
    exact ba_split s _ (by omega)
  · show (s.extract 8 _).size ≤ _
    rw [ByteArray.size_extract]; omega
/-- What is taken stands there. -/
theorem take_eat {s : ByteArray} (h : (takeR s).2.2 = 0) : GoodR (takeR s).1 ∧ s = frR (takeR s).1 ++ (takeR s).2.1 := by
  unfold takeR at h ⊢
  by_cases hu : (unf s).2.2 = true
  · rw [if_pos hu] at h ⊢
    by_cases hg : goodP (unf s).1 (bodyP (headP (unf s).1)) = true
    · rw [if_pos hg]
      obtain ⟨e1, e2⟩ := unf_eat hu
      unfold goodP at hg
      simp only [Bool.and_eq_true, beq_iff_eq] at hg
      refine ⟨⟨hg.1.2, by show (plainS (bodyP (headP (unf s).1)).1).size ≤ _; rw [hg.2]; exact e2⟩, ?_⟩
      show s = frame (plainS (bodyP (headP (unf s).1)).1) ++ (unf s).2.1
      rw [hg.2]; exact e1
    · rw [if_neg hg] at h; cases h
  · rw [if_neg hu] at h; cases h
theorem frR_size {r : Rec} (h : GoodR r) : (frR r).size = (plainS r).size + 8 := frame_size h.le
theorem frame_four {p : ByteArray} (h : p.size ≤ 4000) : (frame p).data.toList.take 4 = be4 p.size := by
  rw [frame, if_neg (by omega)]
  show (frmL p.data.toList).take 4 = _
  rw [frmL, List.append_assoc, List.take_left' (be4_len _)]; rfl
theorem be4_inj {a b : Nat} (ha : a ≤ 4000) (hb : b ≤ 4000) (h : be4 a = be4 b) : a = b := by
  have h1 := num_be4 a
  have h2 := num_be4 b
  rw [h] at h1
  omega
/-- Two records at the begin of bytes that agree so far have as many bytes. -/
theorem same_size {p q a b : ByteArray} (hp : p.size ≤ 4000) (hq : q.size ≤ 4000) (h : (frame p ++ a).data.toList.take 4 = (frame q ++ b).data.toList.take 4) : p.size = q.size := by
  have s1 := frame_size hp
  have s2 := frame_size hq
  rw [ba_app, ba_app, List.take_append_of_le_length (by rw [ba_len]; omega), List.take_append_of_le_length (by rw [ba_len]; omega), frame_four hp, frame_four hq] at h
  exact be4_inj hp hq h
/-- A record that is cut off is none. -/
theorem take_torn {r : Rec} (h : GoodR r) {k : Nat} (hk : k < (frR r).size) : (takeR ((frR r).extract 0 k)).2.2 ≠ 0 := fun e => by
  obtain ⟨g, hs⟩ := take_eat e
  generalize (takeR ((frR r).extract 0 k)).1 = r' at g hs
  generalize (takeR ((frR r).extract 0 k)).2.1 = t' at hs
  have s1 := frR_size g
  have s2 := frR_size h
  have hz : ((frR r).extract 0 k).size = k := by rw [ByteArray.size_extract]; omega
  have hz2 : k = (frR r').size + t'.size := by rw [← hz, hs, ByteArray.size_append]
  have e1 : (frR r' ++ t').data.toList.take 4 = (frR r ++ ⟨#[]⟩).data.toList.take 4 := by
    rw [← hs, ba_nil, ba_ex, List.drop_zero, Nat.sub_zero, List.take_take, Nat.min_eq_left (by omega)]
  have := same_size g.le h.le e1
  omega
theorem take_none : (takeR ⟨#[]⟩).2.2 ≠ 0 := fun e => by
  obtain ⟨g, hs⟩ := take_eat e
  have := congrArg ByteArray.size hs
  rw [ByteArray.size_append, frR_size g] at this
  have h0 : (⟨#[]⟩ : ByteArray).size = 0 := rfl
  omega
theorem take_cat {r : Rec} (h : GoodR r) (t : ByteArray) : takeR (frR r ++ t) = (r, t, 0) := take_put h.b h.le t
theorem scan_cat {t : ByteArray} : ∀ (A : List Rec) (f : Nat), (∀ r ∈ A, GoodR r) → scanG (f + A.length) (catR A ++ t) = (A ++ (scanG f t).1, (scanG f t).2)
  | [], f, _ => by show scanG f (⟨#[]⟩ ++ t) = _; rw [ba_nil']; rfl
  | r :: A, f, h => by
    have hr := h r (List.mem_cons_self ..)
    have ih := scan_cat (t := t) A f fun x hx => h x (List.mem_cons_of_mem _ hx)
    show scanG (f + A.length + 1) (frR r ++ catR A ++ t) = _
    rw [ba_assoc, scanG, take_cat hr, if_pos rfl]
    simp only
    rw [ih]; rfl
theorem scan_stop {t : ByteArray} (h : (takeR t).2.2 ≠ 0) (f : Nat) : scanG f t = ([], t) := by
  cases f with
  | zero => rfl
  | succ f => rw [scanG, if_neg h]
theorem scan_more : ∀ (f : Nat) (s : ByteArray), s.size < f → ∀ f', s.size < f' → scanG f s = scanG f' s
  | 0, s, h, _, _ => absurd h (Nat.not_lt_zero _)
  | f + 1, s, h, 0, h' => absurd h' (Nat.not_lt_zero _)
  | f + 1, s, h, f' + 1, h' => by
    rw [scanG, scanG]
    split
    · rename_i e
      obtain ⟨g, hs⟩ := take_eat e
      have h1 := congrArg ByteArray.size hs
      rw [ByteArray.size_append, frR_size g] at h1
      rw [scan_more f _ (by omega) f' (by omega)]
    · rfl
theorem cat_le : ∀ {A : List Rec}, (∀ r ∈ A, GoodR r) → 8 * A.length ≤ (catR A).size
  | [], _ => Nat.zero_le _
  | r :: A, h => by
    have h1 := cat_le (A := A) fun x hx => h x (List.mem_cons_of_mem _ hx)
    have h2 := frR_size (h r (List.mem_cons_self ..))
    have e : catR (r :: A) = frR r ++ catR A := rfl
    rw [e, ByteArray.size_append, List.length_cons]; omega
/-- Whole records, then what is none. -/
theorem scan_whole {A : List Rec} {t : ByteArray} (h : ∀ r ∈ A, GoodR r) (ht : (takeR t).2.2 ≠ 0) : scanS (catR A ++ t) = (A, t) ∧ scanN (catR A ++ t) = (catR A).size := by
  have hl := cat_le h
  have e : scanS (catR A ++ t) = (A, t) := by
    rw [scanS, scan_more _ _ (Nat.lt_succ_self _) ((catR A ++ t).size + 1 + A.length) (by omega), scan_cat A _ h, scan_stop ht]
    simp
  exact ⟨e, by rw [scanN, e, ByteArray.size_append]; show (catR A).size + t.size - t.size = _; omega⟩
/-- How many whole records there are in so many bytes. -/
def wholeN : List Rec → Nat → Nat
  | [], _ => 0
  | r :: l, n => if (frR r).size ≤ n then wholeN l (n - (frR r).size) + 1 else 0
theorem whole_le : ∀ (A : List Rec) (n : Nat), wholeN A n ≤ A.length
  | [], _ => Nat.le_refl _
  | r :: A, n => by
    rw [wholeN]
    split
    · have := whole_le A (n - (frR r).size); rw [List.length_cons]; omega
    · exact Nat.zero_le _
theorem cat_size_take (A : List Rec) (m : Nat) : (catR (A.take m)).size ≤ (catR A).size := by
  have e : catR A = catR (A.take m) ++ catR (A.drop m) := by rw [← catR_app, List.take_append_drop]
  rw [e, ByteArray.size_append]; omega
/-- Bytes of records, cut off: whole ones, and part of the next. -/
theorem cut_cat : ∀ {A : List Rec} {n : Nat}, (∀ r ∈ A, GoodR r) → n ≤ (catR A).size → ∃ t, (catR A).extract 0 n = catR (A.take (wholeN A n)) ++ t ∧ (takeR t).2.2 ≠ 0 ∧ (catR (A.take (wholeN A n))).size ≤ n
  | [], n, _, hn => ⟨⟨#[]⟩, by
      have : n = 0 := Nat.le_zero.1 hn
      subst this; rfl, take_none, Nat.zero_le _⟩
  | r :: A, n, h, hn => by
    have hr := h r (List.mem_cons_self ..)
    have hA : ∀ x ∈ A, GoodR x := fun x hx => h x (List.mem_cons_of_mem _ hx)
    have e : catR (r :: A) = frR r ++ catR A := rfl
    rw [e, ByteArray.size_append] at hn
    rw [e, wholeN]
    split
    · rename_i hle
      obtain ⟨t, h1, h2, h3⟩ := cut_cat (n := n - (frR r).size) hA (by omega)
      refine ⟨t, ?_, h2, ?_⟩
      · show _ = frR r ++ catR (A.take _) ++ t
        rw [ba_assoc, ← h1]
        refine ba_ext ?_
        rw [ba_ex, ba_app, ba_app, ba_ex, List.drop_zero, List.drop_zero, Nat.sub_zero, Nat.sub_zero, List.take_append, ba_len, List.take_of_length_le (by rw [ba_len]; omega)]
      · show (frR r ++ catR (A.take _)).size ≤ n
        rw [ByteArray.size_append]; omega
    · rename_i hgt
      refine ⟨(frR r).extract 0 n, ?_, take_torn hr (by omega), Nat.zero_le _⟩
      show _ = (⟨#[]⟩ : ByteArray) ++ (frR r).extract 0 n
      rw [ba_nil']
      refine ba_ext ?_
      rw [ba_ex, ba_app, ba_ex, List.drop_zero, List.drop_zero, Nat.sub_zero, List.take_append_of_le_length (by rw [ba_len]; omega)]
theorem scan_cut {A : List Rec} {n : Nat} (h : ∀ r ∈ A, GoodR r) (hn : n ≤ (catR A).size) : (scanS ((catR A).extract 0 n)).1 = A.take (wholeN A n) ∧ scanN ((catR A).extract 0 n) = (catR (A.take (wholeN A n))).size := by
  obtain ⟨t, h1, h2, _h3⟩ := cut_cat h hn
  obtain ⟨h3, h4⟩ := scan_whole (A := A.take (wholeN A n)) (t := t) (fun r hr => h r (List.mem_of_mem_take hr)) h2
  rw [h1]
  exact ⟨by rw [h3], h4⟩
theorem whole_ge : ∀ {A : List Rec} {n m : Nat}, m ≤ A.length → (catR (A.take m)).size ≤ n → m ≤ wholeN A n
  | _, _, 0, _, _ => Nat.zero_le _
  | [], _, m + 1, h, _ => absurd h (by simp)
  | r :: A, n, m + 1, h, hs => by
    have e : catR ((r :: A).take (m + 1)) = frR r ++ catR (A.take m) := rfl
    rw [e, ByteArray.size_append] at hs
    rw [wholeN, if_pos (by omega)]
    exact Nat.succ_le_succ (whole_ge (by simpa using h) (by omega))
end Go.Rx

/- Files, and the records that bytes begin with, walked. -/
set_option linter.unusedVariables false
set_option linter.unusedSimpArgs false
namespace Go.Rx
structure FileS where
  safe : ByteArray
  tail : ByteArray
  cap : Int
structure FileS.Ok (f : FileS) : Prop where
  safe : okS f.safe
  tail : okS f.tail
abbrev FileS.enc (f : FileS) : List PV := [pS f.safe, pS f.tail, pI f.cap]
abbrev encFile (f : FileS) : AV := .agg [.pv (pS f.safe), .pv (pS f.tail), .pv (pI f.cap)]
abbrev fileV (f : FileS) : Blk := .var [.pv (pS f.safe), .pv (pS f.tail), .pv (pI f.cap)]
abbrev fileE (p : FileS × Int) : AV := .tup [.agg [.pv (pS p.1.safe), .pv (pS p.1.tail), .pv (pI p.1.cap)], .lf (.pv (pI p.2))]
def fileB (f : FileS) : Bool := decide (1 ≤ f.cap) && (decide (f.cap ≤ 60000) && decide ((f.safe.size : Int) + f.tail.size ≤ f.cap))
theorem fileB_iff {f : FileS} : fileB f = true ↔ 1 ≤ f.cap ∧ f.cap ≤ 60000 ∧ (f.safe.size : Int) + f.tail.size ≤ f.cap := by
  unfold fileB; simp only [Bool.and_eq_true, decide_eq_true_eq]
def zF : FileS := ⟨⟨#[]⟩, ⟨#[]⟩, 0⟩
def roomF (f : FileS) : Int := f.cap - f.safe.size - f.tail.size
def fappP (f : FileS) (s : ByteArray) : FileS × Int := if fileB f then (if roomF f < s.size then (zF, 7) else (⟨f.safe, f.tail ++ s, f.cap⟩, 0)) else (zF, 1)
def crashF (f : FileS) (keep : Nat) : FileS := ⟨f.safe ++ f.tail.extract 0 keep, ⟨#[]⟩, f.cap⟩
def keepI (f : FileS) (keep : Int) : Nat := (min (max keep 0) f.tail.size).toNat
def crashP (f : FileS) (keep : Int) : FileS × Int := if fileB f then (crashF f (keepI f keep), 0) else (zF, 1)
def cutP (f : FileS) (n : Int) : FileS × Int := if fileB f && decide (0 ≤ n ∧ n ≤ f.safe.size) then (if f.tail = ⟨#[]⟩ then (⟨f.safe.extract 0 n.toNat, f.tail, f.cap⟩, 0) else (zF, 9)) else (zF, 1)
theorem finFE {a b : ByteArray} {c e : Int} {q : FileS × Int} (h : Fin (⟨a, b, c⟩, e) q) : ∃ zs, Fa WkA [.agg [.pv (pS a), .pv (pS b), .pv (pI c)], Go.Rx.I e] zs ∧ pack zs = some (fileE q) := ⟨_, wk_refl _, by rw [← h.out]; rfl⟩
theorem ext_tail {s a b : ByteArray} {k : Nat} (hk : k ≤ s.size) (h : s.extract k s.size = a ++ b) : s.extract (s.size - b.size) s.size = b ∧ s.size = k + a.size + b.size := by
  have hz := congrArg ByteArray.size h
  rw [ByteArray.size_extract, ByteArray.size_append] at hz
  have e : s.data.toList.drop k = a.data.toList ++ b.data.toList := by
    have := congrArg (fun x : ByteArray => x.data.toList) h
    simp only [ba_ex, ba_app] at this
    rw [← this, List.take_of_length_le]
    rw [List.length_drop, ba_len]
    omega
  refine ⟨ba_ext ?_, by omega⟩
  rw [ba_ex, List.take_of_length_le (by rw [List.length_drop, ba_len]; omega), show s.size - b.size = k + a.size by omega, ← List.drop_drop, e, List.drop_left' (ba_len a)]
end Go.Rx
namespace Go.Proofs.Yteebnpkoephjnaa.Rx
open Go.Rx Go.Proofs Go.Proofs.Yteebnpkoephjnaa.RxB
theorem fmay_con (f : FileS) (h : f.Ok) : Con P 21 [encFile f] (Bl (fileB f)) [] := by
  have h1 := h.safe
  have h2 := h.tail
  refine Con.of T_ok Try.func21 rfl (by kernel_rfl) (by kernel_rfl) (aw_of T_ok (by kernel_rfl) ?_)
  conv => whnf
  split <;> rename_i t1 <;> conv => whnf
  · split <;> rename_i t2 <;> conv => whnf
    · refine finB ⟨?_⟩
      rw [fileB, show decide (1 ≤ f.cap) = true from t1, show decide (f.cap ≤ 60000) = true from t2, wrapI (by omega)]
      simp
    · exact finB ⟨by rw [fileB, show decide (f.cap ≤ 60000) = false from t2]; simp⟩
  · exact finB ⟨by rw [fileB, show decide (1 ≤ f.cap) = false from t1]; simp⟩
theorem froom_con (f : FileS) (h : f.Ok) (hb : fileB f = true) : Con P 37 [encFile f] (Go.Rx.I (roomF f)) [] := by
  obtain ⟨h1, h2, h3⟩ := fileB_iff.1 hb
  refine Con.of T_ok Try.func37 rfl (by kernel_rfl) (by kernel_rfl) (aw_of T_ok (by kernel_rfl) ?_)
  conv => whnf
  exact finI ⟨by rw [wrapI (n := f.cap - f.safe.size) (by omega), wrapI (by omega), roomF]⟩
theorem fapp_con (f : FileS) (h : f.Ok) (s : ByteArray) (hs : okS s) : Con P 23 [encFile f, Sx s] (fileE (fappP f s)) [] := by
  have h1 := h.safe
  have h2 := h.tail
  have cm := fmay_con f h
  obtain ⟨q, hq⟩ : ∃ q, q = fappP f s := ⟨_, rfl⟩
  rw [← hq]
  refine Con.of T_ok Try.func23 rfl (by kernel_rfl) (by kernel_rfl) (aw_of T_ok (by kernel_rfl) ?_)
  conv => whnf
  refine callS cm rfl ?_
  conv => whnf
  split <;> rename_i t1 <;> conv => whnf
  · have hb : fileB f = false := by simpa using t1
    rw [fappP, hb] at hq
    exact finFE ⟨hq.symm⟩
  have hb : fileB f = true := by simpa using t1
  refine callS (froom_con f h hb) rfl ?_
  conv => whnf
  split <;> rename_i t2 <;> conv => whnf
  · have : (s.size : Int) > roomF f := of_decide_eq_true t2
    rw [fappP, if_pos hb, if_pos (by omega)] at hq
    exact finFE ⟨hq.symm⟩
  · have hr : ¬ (s.size : Int) > roomF f := of_decide_eq_false t2
    rw [fappP, if_pos hb, if_neg (by omega)] at hq
    have hbi := fileB_iff.1 hb
    refine ⟨by show f.tail.size + s.size ≤ _; unfold roomF at hr; omega, ?_⟩
    conv => whnf
    exact finFE ⟨hq.symm⟩
theorem fcrash_con (f : FileS) (h : f.Ok) (keep : Int) : Con P 10 [encFile f, Go.Rx.I keep] (fileE (crashP f keep)) [] := by
  have h1 := h.safe
  have h2 := h.tail
  have cm := fmay_con f h
  obtain ⟨q, hq⟩ : ∃ q, q = crashP f keep := ⟨_, rfl⟩
  rw [← hq]
  refine Con.of T_ok Try.func10 rfl (by kernel_rfl) (by kernel_rfl) (aw_of T_ok (by kernel_rfl) ?_)
  conv => whnf
  refine callS cm rfl ?_
  conv => whnf
  split <;> rename_i t1 <;> conv => whnf
  · have hb : fileB f = false := by simpa using t1
    rw [crashP, hb] at hq
    exact finFE ⟨hq.symm⟩
  have hb : fileB f = true := by simpa using t1
  rw [crashP, if_pos hb] at hq
  obtain ⟨k, hk, hk2⟩ : ∃ k : Nat, (if (f.tail.size : Int) < (if (0 : Int) > keep then (0 : Int) else keep) then (f.tail.size : Int) else (if (0 : Int) > keep then (0 : Int) else keep)) = k ∧ k = keepI f keep := by
    refine ⟨_, ?_, rfl⟩
    unfold keepI
    split <;> split <;> omega
  have hkl : k ≤ f.tail.size := by rw [hk2, keepI]; omega
  have hbi := fileB_iff.1 hb
  refine AW.draw T_ok rfl (listPl [0, 1, 2, 3, 4, 6, 7, 8, 5, 9, 10, 11, 12, 13]) (by kernel_rfl) (by kernel_rfl) ?_
  conv => whnf
  refine ⟨by decide, by rw [hk]; omega, by rw [hk]; omega, ?_⟩
  conv => whnf
  have e : f.tail.extract (0 : Int).toNat (if (f.tail.size : Int) < (if (0 : Int) > keep then (0 : Int) else keep) then (f.tail.size : Int) else (if (0 : Int) > keep then (0 : Int) else keep)).toNat = f.tail.extract 0 k := by rw [hk]; rfl
  have hz : (f.tail.extract 0 k).size ≤ f.tail.size := by rw [ByteArray.size_extract]; omega
  refine ⟨by
    show f.safe.size + (f.tail.extract (0 : Int).toNat _).size ≤ _
    rw [e]; omega, ?_⟩
  conv => whnf
  exact finFE ⟨by rw [hq, e, crashF, ← hk2]⟩
theorem fsync_con (f : FileS) (h : f.Ok) : Con P 9 [encFile f] (fileE (crashP f f.tail.size)) [] := by
  refine Con.of T_ok Try.func9 rfl (by kernel_rfl) (by kernel_rfl) (aw_of T_ok (by kernel_rfl) ?_)
  conv => whnf
  refine callU (fcrash_con f h f.tail.size) (fun _ => rfl) ?_
  conv => whnf
  exact finFE ⟨rfl⟩
theorem fcut_con (f : FileS) (h : f.Ok) (n : Int) : Con P 24 [encFile f, Go.Rx.I n] (fileE (cutP f n)) [] := by
  have h1 := h.safe
  have h2 := h.tail
  have cm := fmay_con f h
  obtain ⟨q, hq⟩ : ∃ q, q = cutP f n := ⟨_, rfl⟩
  rw [← hq]
  have bad : (fileB f && decide (0 ≤ n ∧ n ≤ f.safe.size)) = false → (zF, 1) = q := fun e => by rw [hq, cutP, e]; rfl
  refine Con.of T_ok Try.func24 rfl (by kernel_rfl) (by kernel_rfl) (aw_of T_ok (by kernel_rfl) ?_)
  conv => whnf
  refine callS cm rfl ?_
  conv => whnf
  split <;> rename_i t1 <;> conv => whnf
  · have hb : fileB f = false := by simpa using t1
    exact finFE ⟨bad (by rw [hb]; rfl)⟩
  have hb : fileB f = true := by simpa using t1
  split <;> rename_i t2 <;> conv => whnf
  · have : n < 0 := of_decide_eq_true t2
    exact finFE ⟨bad (by rw [decide_eq_false (by omega), Bool.and_false])⟩
  have h0 : ¬ n < 0 := of_decide_eq_false t2
  split <;> rename_i t3 <;> conv => whnf
  · have : n > (f.safe.size : Int) := of_decide_eq_true t3
    exact finFE ⟨bad (by rw [decide_eq_false (by omega), Bool.and_false])⟩
  have hn : ¬ n > (f.safe.size : Int) := of_decide_eq_false t3
  rw [cutP, if_pos (by rw [hb, decide_eq_true (by omega)]; rfl)] at hq
  split <;> rename_i t4 <;> conv => whnf
  · have : f.tail ≠ ⟨#[]⟩ := by
      have : (!(f.tail == ⟨#[]⟩)) = true := t4
      simpa using this
    rw [if_neg this] at hq
    exact finFE ⟨hq.symm⟩
  · have : f.tail = ⟨#[]⟩ := by
      have : (!(f.tail == ⟨#[]⟩)) = false := t4
      simpa using this
    rw [if_pos this] at hq
    refine ⟨by decide, by omega, by omega, ?_⟩
    conv => whnf
    exact finFE ⟨hq.symm⟩
set_option maxHeartbeats 1000000 in
theorem scan_con (s : ByteArray) (hs : s.size ≤ 1000000) : Con P 17 [Sx s] (.tup [.lf (.own 0 (scanS s).1.length), .lf (.pv (pI (scanN s)))]) [.arr 42 6 ((scanS s).1.map Rec.enc)] := by
  have hN : scanN s = s.size - (scanS s).2.size := rfl
  obtain ⟨res, hres⟩ : ∃ res, res = scanS s := ⟨_, rfl⟩
  rw [hN, ← hres]
  refine ConG.con (ConG.of T_ok Try.func17 rfl (by kernel_rfl) (by kernel_rfl) (aw_of T_ok (by kernel_rfl) ?_)) rfl
  conv => whnf
  refine AW.loop (fun p : Nat × List Rec × Nat => p.2.2 ≤ s.size ∧ 8 * p.2.1.length + (s.size - p.2.2) ≤ s.size ∧ s.size - p.2.2 < p.1 ∧ (p.2.1 ++ (scanG p.1 (s.extract p.2.2 s.size)).1, (scanG p.1 (s.extract p.2.2 s.size)).2) = res)
    (fun p => [(0, Sx s), (2, .lf (.own 0 p.2.1.length)), (3, Go.Rx.I p.2.2)]) (fun p => [.arr 42 6 (p.2.1.map Rec.enc)]) (fun p => s.size - p.2.2) [.slot 2 42 6] ?_ ?_
  · refine ⟨rfl, (s.size + 1, [], 0), ⟨Nat.zero_le _, by show 8 * 0 + (s.size - 0) ≤ _; omega, by show s.size - 0 < s.size + 1; omega, ?_⟩, ⟨rfl, rfl, rfl, trivial⟩, ⟨[], rfl⟩, rfl, rfl⟩
    have e : s.extract 0 s.size = s := ba_ext (by rw [ba_ex, List.drop_zero, Nat.sub_zero, List.take_of_length_le (by rw [ba_len]; exact Nat.le_refl _)])
    show ([] ++ (scanG (s.size + 1) (s.extract 0 s.size)).1, (scanG (s.size + 1) (s.extract 0 s.size)).2) = res
    rw [e, hres]; rfl
  rintro ⟨f, l, k⟩ ⟨hk, hl, hf, hinv⟩
  simp only at hk hl hf hinv
  have htz : (s.extract k s.size).size = s.size - k := by rw [ByteArray.size_extract]; omega
  have hts : okS (s.extract k s.size) := by show (s.extract k s.size).size ≤ _; omega
  have stop : (takeR (s.extract k s.size)).2.2 ≠ 0 → res = (l, s.extract k s.size) := fun e => by
    rw [← hinv, scan_stop e, List.append_nil]
  refine aw_of T_ok (by kernel_rfl) ?_
  conv => whnf
  split <;> rename_i t1 <;> conv => whnf
  rotate_left
  · have h1 : ¬ (k : Int) < (s.size : Int) := of_decide_eq_false t1
    have e : s.extract k s.size = ⟨#[]⟩ := ba_ext (List.eq_nil_of_length_eq_zero (by rw [ba_len]; omega))
    rw [e] at stop
    have hr := stop take_none
    rw [hr]
    refine ⟨[], [0], [.lf (.own 0 l.length), Go.Rx.I k], [.lf (.own 0 l.length), Go.Rx.I k], rfl, rfl, rfl, wk_refl _, ?_⟩
    have hks : k = s.size - (⟨#[]⟩ : ByteArray).size := by show k = s.size - 0; omega
    exact congrArg (fun n : Nat => some (AV.tup [.lf (.own 0 l.length), .lf (.pv (pI n))])) hks
  have h1 : (k : Int) < (s.size : Int) := of_decide_eq_true t1
  have ct := take_con (s.extract k s.size) hts
  have eat := take_eat (s := s.extract k s.size)
  have hstep : ∀ f', f = f' + 1 → scanG f (s.extract k s.size) = if (takeR (s.extract k s.size)).2.2 = 0 then ((takeR (s.extract k s.size)).1 :: (scanG f' (takeR (s.extract k s.size)).2.1).1, (scanG f' (takeR (s.extract k s.size)).2.1).2) else ([], s.extract k s.size) := fun f' e => by rw [e, scanG]
  generalize takeR (s.extract k s.size) = x at ct eat stop hstep
  obtain ⟨r, rest, e⟩ := x
  simp only at ct eat stop hstep
  refine ⟨Int.natCast_nonneg k, Int.ofNat_le.2 hk, Int.le_refl _, ?_⟩
  conv => whnf
  refine ⟨_, _, _, wk_refl _, ct, .inr ?_⟩
  conv => whnf
  split <;> rename_i t2 <;> conv => whnf
  · have he : e ≠ 0 := by
      have : (e != 0) = true := t2
      simpa using this
    have hr := stop he
    rw [hr]
    refine ⟨[], [0], [.lf (.own 0 l.length), Go.Rx.I k], [.lf (.own 0 l.length), Go.Rx.I k], rfl, rfl, rfl, wk_refl _, ?_⟩
    have hks : k = s.size - (s.extract k s.size).size := by omega
    exact congrArg (fun n : Nat => some (AV.tup [.lf (.own 0 l.length), .lf (.pv (pI n))])) hks
  · have he : e = 0 := by
      have : (e != 0) = false := t2
      simpa using this
    obtain ⟨hg, hx⟩ := eat he
    obtain ⟨hrest, hsz⟩ := ext_tail hk hx
    have h8 := frR_size hg
    obtain ⟨f', rfl⟩ : ∃ f', f = f' + 1 := ⟨f - 1, by omega⟩
    have hst := hstep f' rfl
    rw [if_pos he] at hst
    refine ⟨List.length_map .., ?_⟩
    conv => whnf
    refine ⟨rfl, _, .inl rfl, ?_⟩
    conv => whnf
    refine ⟨List.length_map .., by show (l.length + 1) * 80 ≤ _; omega, ?_⟩
    conv => whnf
    refine ⟨(f', l ++ [r], s.size - rest.size), ⟨⟨by show s.size - rest.size ≤ s.size; omega, ?zp, ?zq, ?zw⟩, by show s.size - (s.size - rest.size) < s.size - k; omega⟩, ⟨rfl, ?zu, ?zv, trivial⟩, ⟨[?zr1, ?zr2, ?zr3], ?zb⟩, rfl, rfl⟩
    case zp => show 8 * (l ++ [r]).length + (s.size - (s.size - rest.size)) ≤ s.size; rw [List.length_append, List.length_singleton]; omega
    case zq => show s.size - (s.size - rest.size) < f'; omega
    case zw =>
      show ((l ++ [r]) ++ (scanG f' (s.extract (s.size - rest.size) s.size)).1, (scanG f' (s.extract (s.size - rest.size) s.size)).2) = res
      rw [← hinv, hst, hrest, List.append_assoc]; rfl
    case zu => exact congrArg (fun n => AV.lf (.own 0 n)) (show l.length + 1 = (l ++ [r]).length by rw [List.length_append]; rfl)
    case zv =>
      have : IntKind.i64.wrap ((s.size : Int) - rest.size) = ((s.size - rest.size : Nat) : Int) := by rw [wrapI (by omega)]; omega
      exact congrArg Go.Rx.I this
    case zb =>
      show _ = [Blk.arr _ 6 ((l ++ [r]).map Rec.enc)] ++ [_, _, _]
      rw [List.map_append]
      rfl
end Go.Proofs.Yteebnpkoephjnaa.Rx

/- Journals: what is added, what is recovered. -/
set_option linter.unusedVariables false
set_option linter.unusedSimpArgs false
namespace Go.Rx
def jappP (f : FileS) (r : Rec) : FileS × Int := if fileB f then (if (bytesR r).2 = 0 then fappP f (bytesR r).1 else (zF, (bytesR r).2)) else (zF, 1)
def recovP (f : FileS) : List Rec × FileS × Int :=
  if fileB f then (if f.tail = ⟨#[]⟩ then ((scanS f.safe).1, ⟨f.safe.extract 0 (scanN f.safe), f.tail, f.cap⟩, 0) else ([], zF, 9)) else ([], zF, 1)
abbrev recovE (p : List Rec × FileS × Int) : AV := .tup [.lf (.own 0 p.1.length), .agg [.pv (pS p.2.1.safe), .pv (pS p.2.1.tail), .pv (pI p.2.1.cap)], .lf (.pv (pI p.2.2))]
theorem bytes_err (r : Rec) : (bytesR r).2 = 0 ∨ (bytesR r).2 = 1 ∨ (bytesR r).2 = 2 := by
  unfold bytesR frmR; split
  · split
    · exact .inr (.inr rfl)
    · exact .inl rfl
  · exact .inr (.inl rfl)
theorem bytes_le (r : Rec) : (bytesR r).1.size ≤ 4008 := by
  unfold bytesR frmR; split
  · split
    · exact Nat.zero_le _
    · exact frame_le _
  · exact Nat.zero_le _
theorem scanN_le (s : ByteArray) : scanN s ≤ s.size := Nat.sub_le _ _
end Go.Rx
namespace Go.Proofs.Yteebnpkoephjnaa.Rx
open Go.Rx Go.Proofs Go.Proofs.Yteebnpkoephjnaa.RxB
abbrev recZ : AV := .lf (.own 0 0)
theorem eqRecs_con (a b : List Rec) (ha : a.length * 80 ≤ 140737488351232) (hs : ∀ r ∈ a, r.steps.length * 80 ≤ 140737488351232) : Con P 13 [.lf (.pv (encRecs a)), .lf (.pv (encRecs b))] (Bl (decide (a = b))) [] := by
  have hma : (a.map Rec.enc).length = a.length := List.length_map ..
  have hmb : (b.map Rec.enc).length = b.length := List.length_map ..
  refine Con.of T_ok Try.func13 rfl (by kernel_rfl) (by kernel_rfl) (aw_of T_ok (by kernel_rfl) ?_)
  conv => whnf
  split <;> rename_i h <;> conv => whnf
  · refine retB ?_
    symm
    rw [decide_eq_false_iff_not]
    rintro rfl
    simp at h
  · have hl : a.length = b.length := by simp at h; omega
    refine AW.loop (fun k : Nat => k ≤ a.length ∧ ∀ j, j < k → a[j]? = b[j]?) (fun k => [(0, .lf (.pv (encRecs a))), (1, .lf (.pv (encRecs b))), (5, Go.Rx.I k)]) (fun _ => []) (fun k => a.length - k) [] ?_ ?_
    · exact ⟨0, ⟨Nat.zero_le _, fun j hj => absurd hj (Nat.not_lt_zero _)⟩, ⟨rfl, rfl, rfl, trivial⟩, ⟨[], rfl⟩, rfl, rfl⟩
    · rintro k ⟨hk, hpre⟩
      refine aw_of T_ok (by kernel_rfl) ?_
      conv => whnf
      split <;> rename_i hlt <;> conv => whnf
      · have hka : k < a.length := by simp at hlt; omega
        have hkb : k < b.length := by omega
        have ce := eqRec_con a[k] b[k] (hs _ (List.getElem_mem hka))
        have hra : (a.map Rec.enc)[k]? = some a[k].enc := by simp [hka]
        have hrb : (b.map Rec.enc)[k]? = some b[k].enc := by simp [hkb]
        refine AW.draw T_ok rfl (seqPl 0 10) (by kernel_rfl) (by kernel_rfl) ?_
        conv => whnf
        refine ⟨by omega, _, hra, ?_⟩
        conv => whnf
        refine ⟨by omega, _, hrb, ?_⟩
        conv => whnf
        refine callS ce rfl ?_
        conv => whnf
        split <;> rename_i hne <;> conv => whnf
        · refine retB ?_
          symm
          rw [decide_eq_false_iff_not]
          rintro rfl
          have h2 : (!(decide (a[k] = a[k]))) = true := hne
          simp at h2
        · have he : a[k] = b[k] := by
            have h2 : (!(decide (a[k] = b[k]))) = false := hne
            simpa using h2
          refine ⟨k + 1, ⟨⟨by omega, fun j hj => ?_⟩, by omega⟩, ⟨rfl, rfl, congrArg Go.Rx.I (wrapI (by omega)), trivial⟩, ⟨[], rfl⟩, rfl, rfl⟩
          by_cases e : j = k
          · subst e; rw [List.getElem?_eq_getElem hka, List.getElem?_eq_getElem hkb, he]
          · exact hpre j (by omega)
      · refine retB ?_
        symm
        rw [decide_eq_true_eq]
        have hka : k = a.length := by simp at hlt; omega
        apply List.ext_getElem?
        intro j
        rcases Nat.lt_or_ge j k with hj | hj
        · exact hpre j hj
        · rw [List.getElem?_eq_none (by omega), List.getElem?_eq_none (by omega)]
theorem jappend_con (f : FileS) (h : f.Ok) (r : Rec) (hr : r.Ok) : Con P 7 [encFile f, encRec r] (fileE (jappP f r)) [] := by
  have cm := fmay_con f h
  have cb := bytes_con r hr
  have hz := bytes_le r
  have hj : jappP f r = if fileB f then (if (bytesR r).2 = 0 then fappP f (bytesR r).1 else (zF, (bytesR r).2)) else (zF, 1) := rfl
  generalize bytesR r = x at cb hz hj
  obtain ⟨b, e⟩ := x
  simp only at cb hz hj
  have ca := fapp_con f h b (by show b.size ≤ _; omega)
  obtain ⟨q, hq⟩ : ∃ q, q = jappP f r := ⟨_, rfl⟩
  rw [← hq]
  rw [hj] at hq
  refine Con.of T_ok Try.func7 rfl (by kernel_rfl) (by kernel_rfl) (aw_of T_ok (by kernel_rfl) ?_)
  conv => whnf
  refine callS cm rfl ?_
  conv => whnf
  split <;> rename_i t1 <;> conv => whnf
  · have hb : fileB f = false := by simpa using t1
    rw [if_neg (by rw [hb]; decide)] at hq
    exact finFE ⟨hq.symm⟩
  have hb : fileB f = true := by simpa using t1
  rw [if_pos hb] at hq
  refine callS cb rfl ?_
  conv => whnf
  split <;> rename_i t2 <;> conv => whnf
  · have : e ≠ 0 := by
      have : (e != 0) = true := t2
      simpa using this
    rw [if_neg this] at hq
    exact finFE ⟨hq.symm⟩
  · have : e = 0 := by
      have : (e != 0) = false := t2
      simpa using this
    rw [if_pos this] at hq
    refine callU ca (fun _ => rfl) ?_
    conv => whnf
    exact finFE ⟨hq.symm⟩
theorem recover_con (f : FileS) (h : f.Ok) : Con P 12 [encFile f] (recovE (recovP f)) [.arr 42 6 ((recovP f).1.map Rec.enc)] := by
  have cm := fmay_con f h
  obtain ⟨q, hq⟩ : ∃ q, q = recovP f := ⟨_, rfl⟩
  rw [← hq]
  refine ConG.con (ConG.of T_ok Try.func12 rfl (by kernel_rfl) (by kernel_rfl) (aw_of T_ok (by kernel_rfl) ?_)) rfl
  conv => whnf
  refine callS cm rfl ?_
  conv => whnf
  split <;> rename_i t1 <;> conv => whnf
  · have hb : fileB f = false := by simpa using t1
    rw [recovP, if_neg (by rw [hb]; decide)] at hq
    subst hq
    refine AW.draw T_ok rfl (seqPl 0 4) (by kernel_rfl) (by kernel_rfl) ?_
    conv => whnf
    exact ⟨[.slot 2 42 6], ⟨rfl, [2], [recZ, .agg [.pv (pS ⟨#[]⟩), .pv (pS ⟨#[]⟩), .pv (pI 0)], Go.Rx.I 1], [recZ, .agg [.pv (pS ⟨#[]⟩), .pv (pS ⟨#[]⟩), .pv (pI 0)], Go.Rx.I 1], rfl, rfl, rfl, wk_refl _, rfl⟩⟩
  have hb : fileB f = true := by simpa using t1
  rw [recovP, if_pos hb] at hq
  split <;> rename_i t2 <;> conv => whnf
  · have ht : f.tail ≠ ⟨#[]⟩ := by
      have : (!(f.tail == ⟨#[]⟩)) = true := t2
      simpa using this
    rw [if_neg ht] at hq
    subst hq
    refine AW.draw T_ok rfl (seqPl 0 4) (by kernel_rfl) (by kernel_rfl) ?_
    conv => whnf
    exact ⟨[.slot 2 42 6], ⟨rfl, [2], [recZ, .agg [.pv (pS ⟨#[]⟩), .pv (pS ⟨#[]⟩), .pv (pI 0)], Go.Rx.I 9], [recZ, .agg [.pv (pS ⟨#[]⟩), .pv (pS ⟨#[]⟩), .pv (pI 0)], Go.Rx.I 9], rfl, rfl, rfl, wk_refl _, rfl⟩⟩
  have ht : f.tail = ⟨#[]⟩ := by
    have : (!(f.tail == ⟨#[]⟩)) = false := t2
    simpa using this
  rw [if_pos ht] at hq
  have hbi := fileB_iff.1 hb
  have hsz : f.safe.size ≤ 1000000 := by omega
  have csc := scan_con f.safe hsz
  have hle := scanN_le f.safe
  generalize scanN f.safe = at0 at csc hle hq
  generalize (scanS f.safe).1 = l at csc hq
  have cc := fcut_con f h at0
  rw [cutP, if_pos (by rw [hb, decide_eq_true (by omega)]; rfl), if_pos ht] at cc
  subst hq
  refine ⟨_, _, _, wk_refl _, csc, .inr ?_⟩
  conv => whnf
  refine callU cc (fun _ => rfl) ?_
  conv => whnf
  refine AW.draw T_ok rfl (seqPl 0 6) (by kernel_rfl) (by kernel_rfl) ?_
  conv => whnf
  exact ⟨[], [2], [.lf (.own 0 l.length), .agg [.pv (pS (f.safe.extract 0 at0)), .pv (pS f.tail), .pv (pI f.cap)], Go.Rx.I 0], [.lf (.own 0 l.length), .agg [.pv (pS (f.safe.extract 0 at0)), .pv (pS f.tail), .pv (pI f.cap)], Go.Rx.I 0], rfl, rfl, rfl, wk_refl _, rfl⟩
end Go.Proofs.Yteebnpkoephjnaa.Rx

/- Journals that are cut off, or rotten: plain words. -/
set_option linter.unusedVariables false
set_option linter.unusedSimpArgs false
namespace Go.Rx
structure FAct where
  kind : Int
  n : Int
  s : ByteArray
abbrev FAct.enc (a : FAct) : List PV := [pI a.kind, pI a.n, pS a.s]
structure Ask13 (R : List Rec) (S : List ByteArray) (F : FileS) (A : List FAct) : Prop where
  a11 : Ask11 R S
  file : F.Ok
  len : A.length * 32 ≤ 140737488351232
  each : ∀ a ∈ A, okS a.s
abbrev encFActs (A : List FAct) : PV := .sl 3 (A.map FAct.enc)
abbrev encAsk13 (R : List Rec) (S : List ByteArray) (N : List Int) (F : FileS) (n : Int) (A : List FAct) : AV := .agg [.pv (encRecs R), .pv (encStrs S), .pv (encInts N), .pv (pS F.safe), .pv (pS F.tail), .pv (pI F.cap), .pv (pI n), .pv (encFActs A)]
abbrev ask13V (R : List Rec) (S : List ByteArray) (N : List Int) (F : FileS) (n : Int) (A : List FAct) : Blk := .var [.pv (encRecs R), .pv (encStrs S), .pv (encInts N), .pv (pS F.safe), .pv (pS F.tail), .pv (pI F.cap), .pv (pI n), .pv (encFActs A)]
def heavy12G : List FAct → Int → Int
  | [], n => n
  | a :: l, n => if n < 1048576 then heavy12G l (n + a.s.size) else n
theorem heavy12_ge : ∀ (l : List FAct) (n : Int), n ≤ heavy12G l n
  | [], n => Int.le_refl _
  | a :: l, n => by
    rw [heavy12G]; split
    · have := heavy12_ge l (n + a.s.size); omega
    · exact Int.le_refl _
def heavy12N (F : FileS) (A : List FAct) : Int := heavy12G A ((F.safe.size : Int) + F.tail.size + A.length)
/-- Where the records of bytes end. -/
def endsL (A : List Rec) : List Int := (List.range A.length).map fun k => ((catR (A.take (k + 1))).size : Int)
theorem ends_len (A : List Rec) : (endsL A).length = A.length := by simp [endsL]
theorem ends_snoc (A : List Rec) (r : Rec) : endsL (A ++ [r]) = endsL A ++ [((catR (A ++ [r])).size : Int)] := by
  rw [endsL, endsL, List.length_append, List.length_singleton, List.range_succ, List.map_append]
  congr 1
  · refine List.map_congr_left fun k hk => ?_
    have := List.mem_range.1 hk
    rw [List.take_append_of_le_length (by omega)]
  · show [((catR ((A ++ [r]).take (A.length + 1))).size : Int)] = _
    rw [List.take_of_length_le (by rw [List.length_append, List.length_singleton]; exact Nat.le_refl _)]
/-- How many ends there are among the first that are not behind a place: what the loop counts. -/
theorem whole_step : ∀ {A : List Rec} {n k : Nat}, (∀ r ∈ A, GoodR r) → k < A.length → ((catR (A.take (k + 1))).size ≤ n ↔ k + 1 ≤ wholeN A n)
  | [], n, k, _, hk => absurd hk (Nat.not_lt_zero _)
  | r :: A, n, 0, h, _ => by
    have e : catR ((r :: A).take (0 + 1)) = frR r := by show catR [r] = _; exact catR_one r
    rw [e, wholeN]
    split
    · exact ⟨fun _ => by omega, fun _ => by assumption⟩
    · rename_i hn
      exact ⟨fun h => absurd h hn, fun h => by omega⟩
  | r :: A, n, k + 1, h, hk => by
    have e : catR ((r :: A).take (k + 1 + 1)) = frR r ++ catR (A.take (k + 1)) := rfl
    rw [e, ByteArray.size_append, wholeN]
    have ih := whole_step (A := A) (n := n - (frR r).size) (k := k) (fun x hx => h x (List.mem_cons_of_mem _ hx)) (by simpa using hk)
    split
    · rename_i hle
      constructor
      · intro h2; have := ih.1 (by omega); omega
      · intro h2; have := ih.2 (by omega); omega
    · rename_i hle
      constructor
      · intro h2; omega
      · intro h2; omega
/-- What is counted behind k of the ends. -/
def manyN (A : List Rec) (n k : Nat) : Nat := min k (wholeN A n)
theorem many_step {A : List Rec} {n k : Nat} (h : ∀ r ∈ A, GoodR r) (hk : k < A.length) : manyN A n (k + 1) = if (catR (A.take (k + 1))).size ≤ n then k + 1 else manyN A n k := by
  have hs := whole_step (n := n) h hk
  unfold manyN
  split
  · rename_i hle
    have := hs.1 hle; omega
  · rename_i hle
    have : ¬ k + 1 ≤ wholeN A n := fun h2 => hle (hs.2 h2)
    omega
theorem japp_ok {f : FileS} {r : Rec} (h : (jappP f r).2 = 0) : fileB f = true ∧ GoodR r ∧ (jappP f r).1 = ⟨f.safe, f.tail ++ frR r, f.cap⟩ ∧ (f.safe.size : Int) + f.tail.size + (frR r).size ≤ f.cap := by
  unfold jappP at h ⊢
  by_cases c1 : fileB f = true
  rotate_left
  · rw [if_neg c1] at h; cases h
  rw [if_pos c1] at h ⊢
  by_cases c2 : (bytesR r).2 = 0
  rotate_left
  · rw [if_neg c2] at h
    exact absurd h c2
  rw [if_pos c2] at h ⊢
  obtain ⟨e1, e2, e3⟩ := bytes_ok c2
  unfold fappP at h ⊢
  rw [if_pos c1] at h ⊢
  by_cases c3 : roomF f < (bytesR r).1.size
  · rw [if_pos c3] at h; cases h
  rw [if_neg c3]
  rw [e3] at c3 ⊢
  unfold roomF at c3
  exact ⟨c1, ⟨e1, e2⟩, rfl, by show (f.safe.size : Int) + f.tail.size + (frame (plainS r)).size ≤ f.cap; omega⟩
end Go.Rx
namespace Go.Proofs.Yteebnpkoephjnaa.Rx
open Go.Rx Go.Proofs Go.Proofs.Yteebnpkoephjnaa.RxB
theorem heavy12_con (F : FileS) (n : Int) (A : List FAct) (hF : F.Ok) (hA : A.length * 32 ≤ 140737488351232) (hs : ∀ a ∈ A, okS a.s) : Con P 20 [.agg [.pv (pS F.safe), .pv (pS F.tail), .pv (pI F.cap), .pv (pI n), .pv (encFActs A)]] (Bl (decide (6000 < heavy12N F A))) [] := by
  have h1 := hF.safe
  have h2 := hF.tail
  have hAm : (A.map FAct.enc).length = A.length := List.length_map ..
  have w0 : IntKind.i64.wrap (IntKind.i64.wrap ((F.safe.size : Int) + F.tail.size) + (A.map FAct.enc).length) = (F.safe.size : Int) + F.tail.size + A.length := by rw [hAm, wrapI (n := (F.safe.size : Int) + F.tail.size) (by omega), wrapI (by omega)]
  obtain ⟨tot, htot⟩ : ∃ tot, tot = heavy12N F A := ⟨_, rfl⟩
  rw [← htot]
  refine Con.of T_ok Try.func20 rfl (by kernel_rfl) (by kernel_rfl) (aw_of T_ok (by kernel_rfl) ?_)
  conv => whnf
  refine AW.loop (fun p : Nat × Int => p.1 ≤ A.length ∧ 0 ≤ p.2 ∧ p.2 ≤ 500000000000000 ∧ heavy12G (A.drop p.1) p.2 = tot) (fun p => [(1, .lf (.ptr 0 0)), (3, Go.Rx.I p.2), (4, Go.Rx.I p.1)])
    (fun _ => [.var [.pv (pS F.safe), .pv (pS F.tail), .pv (pI F.cap), .pv (pI n), .pv (encFActs A)]]) (fun p => A.length - p.1) [] ?_ ?_
  · exact ⟨(0, (F.safe.size : Int) + F.tail.size + A.length), ⟨Nat.zero_le _, by show (0 : Int) ≤ (F.safe.size : Int) + F.tail.size + A.length; omega, by show (F.safe.size : Int) + F.tail.size + A.length ≤ _; omega, htot.symm⟩, ⟨rfl, congrArg Go.Rx.I w0, rfl, trivial⟩, ⟨[], rfl⟩, rfl, rfl⟩
  rintro ⟨k, m⟩ ⟨hk, hm0, hm1, hinv⟩
  simp only at hk hm0 hm1 hinv
  refine aw_of T_ok (by kernel_rfl) ?_
  conv => whnf
  split <;> rename_i t1 <;> conv => whnf
  · have a1 : (k : Int) < ((A.map FAct.enc).length : Int) := of_decide_eq_true t1
    have hkl : k < A.length := by omega
    have hrow : (A.map FAct.enc)[k]? = some A[k].enc := by simp [hkl]
    have hz := hs _ (List.getElem_mem hkl)
    have hd := List.drop_eq_getElem_cons hkl
    generalize A[k] = a at hrow hz hd
    split <;> rename_i t2 <;> conv => whnf
    · have a2 : m < 1048576 := of_decide_eq_true t2
      rw [hd, heavy12G, if_pos a2] at hinv
      refine ⟨by omega, _, hrow, ?_⟩
      conv => whnf
      exact ⟨(k + 1, m + a.s.size), ⟨⟨hkl, by show 0 ≤ m + (a.s.size : Int); omega, by show m + (a.s.size : Int) ≤ _; omega, hinv⟩, by show A.length - (k + 1) < A.length - k; omega⟩, ⟨rfl, congrArg Go.Rx.I (wrapI (by omega)), congrArg Go.Rx.I (wrapI (by omega)), trivial⟩, ⟨[], rfl⟩, rfl, rfl⟩
    · have a2 : ¬ m < 1048576 := of_decide_eq_false t2
      rw [hd, heavy12G, if_neg a2] at hinv
      exact finB ⟨by rw [← hinv]⟩
  · have a1 : ¬ (k : Int) < ((A.map FAct.enc).length : Int) := of_decide_eq_false t1
    rw [List.drop_of_length_le (by omega)] at hinv
    have hi : m = tot := hinv
    exact finB ⟨by rw [← hi]⟩
theorem heavy13_con (R : List Rec) (S : List ByteArray) (N : List Int) (F : FileS) (n : Int) (A : List FAct) (h : Ask13 R S F A) : Con P 6 [encAsk13 R S N F n A] (Bl (heavy11B R S N || decide (6000 < heavy12N F A))) [] := by
  have c1 := heavy11V_con R S N h.a11.len h.a11.each h.a11.strs
  have c2 := heavy12_con F n A h.file h.len h.each
  generalize heavy11B R S N = b1 at c1
  generalize heavy12N F A = b2 at c2
  refine Con.of T_ok Try.func6 rfl (by kernel_rfl) (by kernel_rfl) (aw_of T_ok (by kernel_rfl) ?_)
  conv => whnf
  refine callS c1 rfl ?_
  conv => whnf
  cases b1
  · refine callS c2 rfl ?_
    conv => whnf
    exact finB ⟨rfl⟩
  · exact finB ⟨rfl⟩
theorem heavyZ_con : Con P 18 [.agg [.pv (encRecs []), .pv (encStrs []), .pv (encInts [])]] (Bl false) [] := by
  have c := heavy11V_con [] [] [] (by decide) (fun r hr => (List.not_mem_nil hr).elim) (by decide)
  have e : heavy11B [] [] [] = false := by decide
  rw [e] at c
  exact c
theorem abort1_b : recB ⟨4, 1, 0, ⟨#[]⟩, ⟨#[]⟩, []⟩ = true := by decide
set_option maxHeartbeats 1000000 in
theorem wakes13_con : Con P 14 [] (Bl true) [] := by
  obtain ⟨r, hr⟩ : ∃ r : Rec, r = ⟨4, 1, 0, ⟨#[]⟩, ⟨#[]⟩, []⟩ := ⟨_, rfl⟩
  have hok : r.Ok := hr ▸ ⟨Nat.zero_le _, Nat.zero_le _, ⟨Nat.zero_le _, fun x hx => (List.not_mem_nil hx).elim⟩⟩
  have hb : recB r = true := hr ▸ abort1_b
  have hk : ¬ r.kind = 1 := by rw [hr]; decide
  have sz := bare_size hk
  have g : GoodR r := ⟨hb, by omega⟩
  have fz := frR_size g
  have f0 : (⟨⟨#[]⟩, ⟨#[]⟩, 99⟩ : FileS).Ok := ⟨Nat.zero_le _, Nat.zero_le _⟩
  have e1 : bytesR r = (frR r, 0) := by rw [bytesR, if_pos hb, frmR, if_neg (by omega)]
  have c1 := jappend_con ⟨⟨#[]⟩, ⟨#[]⟩, 99⟩ f0 r hok
  have j1 : jappP ⟨⟨#[]⟩, ⟨#[]⟩, 99⟩ r = (⟨⟨#[]⟩, frR r, 99⟩, 0) := by
    rw [jappP, if_pos (by decide), e1, if_pos rfl, fappP, if_pos (by decide), if_neg (by show ¬ (99 : Int) - 0 - 0 < ((frR r).size : Int); omega)]
    simp only [ba_nil']
  rw [j1] at c1
  have f1 : (⟨⟨#[]⟩, frR r, 99⟩ : FileS).Ok := ⟨Nat.zero_le _, by show (frR r).size ≤ _; omega⟩
  have c2 := fsync_con ⟨⟨#[]⟩, frR r, 99⟩ f1
  have j2 : crashP ⟨⟨#[]⟩, frR r, 99⟩ ((frR r).size : Int) = (⟨frR r, ⟨#[]⟩, 99⟩, 0) := by
    rw [crashP, if_pos (fileB_iff.2 ⟨by show (1 : Int) ≤ 99; decide, by show (99 : Int) ≤ 60000; decide, by show (0 : Int) + ((frR r).size : Int) ≤ 99; omega⟩), crashF]
    have : keepI ⟨⟨#[]⟩, frR r, 99⟩ ((frR r).size : Int) = (frR r).size := by unfold keepI; show (min (max ((frR r).size : Int) 0) ((frR r).size : Int)).toNat = _; omega
    rw [this]
    have e : (frR r).extract 0 (frR r).size = frR r := ba_ext (by rw [ba_ex, List.drop_zero, Nat.sub_zero, List.take_of_length_le (by rw [ba_len]; exact Nat.le_refl _)])
    simp only [ba_nil', e]
  have c2' : Con P 9 [encFile ⟨⟨#[]⟩, frR r, 99⟩] (fileE (⟨frR r, ⟨#[]⟩, 99⟩, 0)) [] := by rw [← j2]; exact c2
  have f2 : (⟨frR r, ⟨#[]⟩, 99⟩ : FileS).Ok := ⟨by show (frR r).size ≤ _; omega, Nat.zero_le _⟩
  have c3 := recover_con ⟨frR r, ⟨#[]⟩, 99⟩ f2
  have hsc : scanS (frR r) = ([r], ⟨#[]⟩) ∧ scanN (frR r) = (frR r).size := by
    have := scan_whole (A := [r]) (t := ⟨#[]⟩) (fun x hx => by rw [List.mem_singleton.1 hx]; exact g) take_none
    rw [catR_one, ba_nil] at this
    exact this
  have j3 : recovP ⟨frR r, ⟨#[]⟩, 99⟩ = ([r], ⟨frR r, ⟨#[]⟩, 99⟩, 0) := by
    rw [recovP, if_pos (fileB_iff.2 ⟨by show (1 : Int) ≤ 99; decide, by show (99 : Int) ≤ 60000; decide, by show ((frR r).size : Int) + (0 : Int) ≤ 99; omega⟩), if_pos rfl]
    have e : (frR r).extract 0 (frR r).size = frR r := ba_ext (by rw [ba_ex, List.drop_zero, Nat.sub_zero, List.take_of_length_le (by rw [ba_len]; exact Nat.le_refl _)])
    simp only [hsc.1, hsc.2, e]
  rw [j3] at c3
  generalize frR r = b at c1 c2' c3
  refine Con.of T_ok Try.func14 rfl (by kernel_rfl) (by kernel_rfl) (aw_of T_ok (by kernel_rfl) ?_)
  conv => whnf
  refine callP c1 (hr ▸ ⟨.inl rfl, .inr (.inr ⟨_, _, rfl, rfl, .inl rfl, .inl rfl, .inl rfl, .inl rfl, .inl rfl, wkN 6, trivial⟩), trivial⟩) (fun _ => rfl) ?_
  conv => whnf
  refine callU c2' (fun _ => rfl) ?_
  conv => whnf
  refine ⟨_, _, _, wk_refl _, c3, .inr ?_⟩
  conv => whnf
  refine callS (num_con 0 (by decide)) rfl ?_
  conv => whnf
  refine callS (num_con 0 (by decide)) rfl ?_
  conv => whnf
  refine callS (num_con 0 (by decide)) rfl ?_
  conv => whnf
  refine ⟨rfl, ?_⟩
  conv => whnf
  exact finB ⟨by simp⟩
end Go.Proofs.Yteebnpkoephjnaa.Rx

/- The arguments of the journals' laws, opened. -/
namespace Go.Proofs.Yteebnpkoephjnaa.Rx
open Go.Rx Go.Rx.Lift Go.Proofs

theorem opFile : Opens P 30 FileS.enc FileS.Ok := by
  have h := opens_struct (total := 3) Try.underlying30 (by kernel_rfl) (from_cons 1 rfl rfl (by kernel_rfl) opStr (from_cons 1 rfl rfl (by kernel_rfl) opStr (from_last 1 rfl rfl (by kernel_rfl) rfl opInt)))
  exact opens_iso (fun q : ByteArray × ByteArray × Int => ⟨q.1, q.2.1, q.2.2⟩) (fun _ => rfl) (fun _ h => ⟨h.1, h.2.1⟩) h
theorem opFAct : Opens P 77 FAct.enc (fun a => okS a.s) := by
  have h := opens_struct (total := 3) Try.underlying77 (by kernel_rfl) (from_cons 1 rfl rfl (by kernel_rfl) opInt (from_cons 1 rfl rfl (by kernel_rfl) opInt (from_last 1 rfl rfl (by kernel_rfl) rfl opStr)))
  exact opens_iso (fun q : Int × Int × ByteArray => ⟨q.1, q.2.1, q.2.2⟩) (fun _ => rfl) (fun _ h => h.2.2) h
theorem opScript12 : Opens P 33 (fun q : FileS × Int × List FAct => [pS q.1.safe, pS q.1.tail, pI q.1.cap, pI q.2.1, encFActs q.2.2]) (fun q => q.1.Ok ∧ q.2.2.length * 32 ≤ 140737488351232 ∧ ∀ a ∈ q.2.2, okS a.s) := by
  have h := opens_struct (total := 5) Try.underlying33 (by kernel_rfl) (from_cons 3 rfl rfl (by kernel_rfl) opFile (from_cons 1 rfl rfl (by kernel_rfl) opInt (from_last 1 rfl rfl (by kernel_rfl) rfl (opens_slice (sz := 3) (B := 32) Try.underlying31 (by kernel_rfl) (by decide) (by kernel_rfl) opFAct))))
  exact opens_iso id (fun _ => rfl) (fun _ h => ⟨h.1, h.2.2.1, h.2.2.2⟩) h
theorem opAsk13 : Opens P 35 (fun q : (List Rec × List ByteArray × List Int) × FileS × Int × List FAct => [encRecs q.1.1, encStrs q.1.2.1, encInts q.1.2.2, pS q.2.1.safe, pS q.2.1.tail, pI q.2.1.cap, pI q.2.2.1, encFActs q.2.2.2]) (fun q => Ask13 q.1.1 q.1.2.1 q.2.1 q.2.2.2 ∧ q.1.2.2.length ≤ 140737488351232) := by
  have h := opens_struct (total := 8) Try.underlying35 (by kernel_rfl) (from_cons 3 rfl rfl (by kernel_rfl) opAsk11 (from_last 5 rfl rfl (by kernel_rfl) rfl opScript12))
  exact opens_iso id (fun _ => rfl) (fun q h => ⟨⟨⟨h.1.1.1, h.1.1.2, h.1.2.1.1, h.1.2.1.2⟩, h.2.1, h.2.2.1, h.2.2.2⟩, by
    have h8 := h.1.2.2
    show q.1.2.2.length ≤ _
    omega⟩) h
end Go.Proofs.Yteebnpkoephjnaa.Rx

/- Records that were appended and synced are recovered: the law's body. -/
set_option linter.unusedVariables false
set_option linter.unusedSimpArgs false
namespace Go.Rx
/-- A file with these records, the first y of them synced. -/
def fK (A : List Rec) (y : Nat) : FileS := ⟨catR (A.take y), catR (A.drop y), 20000⟩
structure KeptA (A : List Rec) (y : Nat) : Prop where
  good : ∀ r ∈ A, GoodR r
  le : y ≤ A.length
  size : (catR A).size ≤ 20000
theorem cat_two (A : List Rec) (y : Nat) : catR (A.take y) ++ catR (A.drop y) = catR A := by rw [← catR_app, List.take_append_drop]
theorem kept_b {A : List Rec} {y : Nat} (h : KeptA A y) : fileB (fK A y) = true := by
  have e := congrArg ByteArray.size (cat_two A y)
  rw [ByteArray.size_append] at e
  have := h.size
  exact fileB_iff.2 ⟨by show (1 : Int) ≤ 20000; decide, by show (20000 : Int) ≤ 60000; decide, by show ((catR (A.take y)).size : Int) + (catR (A.drop y)).size ≤ 20000; omega⟩
theorem kept_ok {A : List Rec} {y : Nat} (h : KeptA A y) : (fK A y).Ok := by
  have h3 := (fileB_iff.1 (kept_b h)).2.2
  have e : (fK A y).cap = 20000 := rfl
  exact ⟨by show (fK A y).safe.size ≤ _; omega, by show (fK A y).tail.size ≤ _; omega⟩
/-- One record more. -/
theorem kept_app {A : List Rec} {y : Nat} {r : Rec} (h : KeptA A y) (hj : (jappP (fK A y) r).2 = 0) : KeptA (A ++ [r]) y ∧ (jappP (fK A y) r).1 = fK (A ++ [r]) y := by
  obtain ⟨_, g, e1, e2⟩ := japp_ok hj
  have ec := congrArg ByteArray.size (cat_two A y)
  rw [ByteArray.size_append] at ec
  have e3 : (catR (A ++ [r])).size = (catR A).size + (frR r).size := by rw [catR_app, catR_one, ByteArray.size_append]
  have e4 : ((catR (A.take y)).size : Int) + (catR (A.drop y)).size + (frR r).size ≤ 20000 := e2
  have hy := h.le
  refine ⟨⟨fun x hx => ?_, by rw [List.length_append]; omega, by omega⟩, ?_⟩
  · rcases List.mem_append.1 hx with h1 | h1
    · exact h.good x h1
    · rw [List.mem_singleton.1 h1]; exact g
  · rw [e1]
    show FileS.mk (catR (A.take y)) (catR (A.drop y) ++ frR r) 20000 = fK (A ++ [r]) y
    rw [fK, List.take_append_of_le_length hy, List.drop_append_of_le_length hy, catR_app, catR_one]
/-- All are synced. -/
theorem kept_sync {A : List Rec} {y : Nat} (h : KeptA A y) : KeptA A A.length ∧ crashP (fK A y) ((fK A y).tail.size : Int) = (fK A A.length, 0) := by
  refine ⟨⟨h.good, Nat.le_refl _, h.size⟩, ?_⟩
  rw [crashP, if_pos (kept_b h), crashF]
  have e : keepI (fK A y) ((fK A y).tail.size : Int) = (fK A y).tail.size := by unfold keepI; omega
  rw [e]
  have e2 : (fK A y).tail.extract 0 (fK A y).tail.size = (fK A y).tail := ba_ext (by rw [ba_ex, List.drop_zero, Nat.sub_zero, List.take_of_length_le (by rw [ba_len]; exact Nat.le_refl _)])
  rw [e2]
  have e3 : (fK A y).safe ++ (fK A y).tail = catR A := cat_two A y
  have e4 : fK A A.length = ⟨catR A, ⟨#[]⟩, 20000⟩ := by rw [fK, List.take_length, List.drop_length]; rfl
  rw [e3, e4]; rfl
theorem ba_take_take (a b : ByteArray) (m : Nat) (h : m ≤ b.size) : a ++ b.extract 0 m = (a ++ b).extract 0 (a.size + m) := ba_ext (by
  rw [ba_app, ba_ex, ba_ex, ba_app, List.drop_zero, List.drop_zero, Nat.sub_zero, Nat.sub_zero, List.take_append, ba_len, List.take_of_length_le (l := a.data.toList) (by rw [ba_len]; omega), Nat.add_sub_cancel_left])
/-- What is recovered behind a crash. -/
theorem kept_crash {A : List Rec} {y : Nat} (h : KeptA A y) (keep : Int) : ∃ m x, m ≤ A.length ∧ y ≤ m ∧ crashP (fK A y) keep = (x, 0) ∧ x.Ok ∧ recovP x = (A.take m, fK (A.take m) m, 0) ∧ recovP (fK (A.take m) m) = (A.take m, fK (A.take m) m, 0) ∧ (fK (A.take m) m).Ok := by
  have hk : keepI (fK A y) keep ≤ (fK A y).tail.size := by unfold keepI; omega
  have ec := congrArg ByteArray.size (cat_two A y)
  rw [ByteArray.size_append] at ec
  obtain ⟨n, hn⟩ : ∃ n, n = (catR (A.take y)).size + keepI (fK A y) keep := ⟨_, rfl⟩
  have hnl : n ≤ (catR A).size := by
    have : (fK A y).tail.size = (catR (A.drop y)).size := rfl
    omega
  have hx : crashF (fK A y) (keepI (fK A y) keep) = ⟨(catR A).extract 0 n, ⟨#[]⟩, 20000⟩ := by
    rw [crashF]
    have : (fK A y).safe ++ (fK A y).tail.extract 0 (keepI (fK A y) keep) = (catR A).extract 0 n := by
      show catR (A.take y) ++ (catR (A.drop y)).extract 0 _ = _
      have hk2 : keepI (fK A y) keep ≤ (catR (A.drop y)).size := hk
      rw [ba_take_take _ _ _ hk2, cat_two, hn]
    rw [this]; rfl
  have hxs : ((catR A).extract 0 n).size = n := by rw [ByteArray.size_extract]; omega
  have hcs := h.size
  obtain ⟨h1, h2⟩ := scan_cut h.good hnl
  obtain ⟨t, h3, h4, h5⟩ := cut_cat h.good hnl
  have hm := whole_le A n
  have hy : y ≤ wholeN A n := whole_ge h.le (by omega)
  generalize wholeN A n = m at h1 h2 h3 h5 hm hy
  have hgm : ∀ r ∈ A.take m, GoodR r := fun r hr => h.good r (List.mem_of_mem_take hr)
  have hcut : ((catR A).extract 0 n).extract 0 (catR (A.take m)).size = catR (A.take m) := by rw [h3]; exact ba_left _ _
  have e20 : fK (A.take m) m = ⟨catR (A.take m), ⟨#[]⟩, 20000⟩ := by
    rw [fK, List.take_take, Nat.min_self, List.drop_of_length_le (by rw [List.length_take]; omega)]; rfl
  have hws := scan_whole (A := A.take m) (t := ⟨#[]⟩) hgm take_none
  rw [ba_nil] at hws
  have hself : (catR (A.take m)).extract 0 (catR (A.take m)).size = catR (A.take m) := ba_ext (by rw [ba_ex, List.drop_zero, Nat.sub_zero, List.take_of_length_le (by rw [ba_len]; exact Nat.le_refl _)])
  have hb1 : fileB ⟨(catR A).extract 0 n, ⟨#[]⟩, 20000⟩ = true := fileB_iff.2 ⟨by show (1 : Int) ≤ 20000; decide, by show (20000 : Int) ≤ 60000; decide, by show (((catR A).extract 0 n).size : Int) + (0 : Int) ≤ 20000; omega⟩
  have hb2 : fileB ⟨catR (A.take m), ⟨#[]⟩, 20000⟩ = true := fileB_iff.2 ⟨by show (1 : Int) ≤ 20000; decide, by show (20000 : Int) ≤ 60000; decide, by show ((catR (A.take m)).size : Int) + (0 : Int) ≤ 20000; omega⟩
  refine ⟨m, ⟨(catR A).extract 0 n, ⟨#[]⟩, 20000⟩, hm, hy, by rw [crashP, if_pos (kept_b h), hx], ⟨by show ((catR A).extract 0 n).size ≤ _; omega, Nat.zero_le _⟩, ?_, ?_, ?_⟩
  · rw [recovP, if_pos hb1, if_pos rfl, e20]
    simp only [h1, h2, hcut]
  · rw [e20, recovP, if_pos hb2, if_pos rfl]
    simp only [hws.1, hws.2, hself]
  · rw [e20]; exact ⟨by show (catR (A.take m)).size ≤ _; omega, Nat.zero_le _⟩
end Go.Rx

/- Records that were appended and synced are recovered: the law's body, walked. -/
set_option linter.unusedVariables false
set_option linter.unusedSimpArgs false
namespace Go.Rx
theorem file_same (x : FileS) : ((x.safe == x.safe) && ((x.tail == x.tail) && ((x.cap == x.cap) && true))) = true := by simp
theorem neqI (n : Int) : (n != n) = false := by simp
end Go.Rx
namespace Go.Proofs.Yteebnpkoephjnaa.Rx
open Go.Rx Go.Proofs Go.Proofs.Yteebnpkoephjnaa.RxB
abbrev recsK (L : List Rec) : Blk := .arr 42 6 (L.map Rec.enc)
set_option maxRecDepth 100000 in
set_option maxHeartbeats 8000000 in
theorem journalKeeps_con (R : List Rec) (S : List ByteArray) (N : List Int) (F : FileS) (n0 : Int) (As : List FAct) (h : Ask13 R S F As) : Con P 3 [encAsk13 R S N F n0 As] (Bl true) [] := by
  have hRm : (R.map Rec.enc).length = R.length := List.length_map ..
  have hlen := h.a11.len
  have chv := heavy13_con R S N F n0 As h
  generalize (heavy11B R S N || decide (6000 < heavy12N F As)) = hv at chv
  cases hv
  rotate_left
  · refine Con.of T_ok Try.func3 rfl (by kernel_rfl) (by kernel_rfl) (aw_of T_ok (by kernel_rfl) ?_)
    conv => whnf
    refine callS chv rfl ?_
    conv => whnf
    exact finB ⟨rfl⟩
  refine Con.of T_ok Try.func3 rfl (by kernel_rfl) (by kernel_rfl) (aw_of T_ok (by kernel_rfl) ?_)
  conv => whnf
  refine callS chv rfl ?_
  conv => whnf
  refine AW.loop (fun p : Nat × List Rec × Nat => p.1 ≤ R.length ∧ p.1 ≤ 8 ∧ p.2.1.length ≤ p.1 ∧ KeptA p.2.1 p.2.2) (fun p => [(1, .lf (.ptr 0 0)), (3, .lf (.ptr 1 0)), (4, Go.Rx.I p.2.2), (5, .lf (.own 2 p.2.1.length)), (6, Go.Rx.I p.1)])
    (fun p => [ask13V R S N F n0 As, fileV (fK p.2.1 p.2.2), recsK p.2.1]) (fun p => R.length - p.1) [.slot 5 42 6] ?_ ?_
  · exact ⟨rfl, (0, [], 0), ⟨Nat.zero_le _, Nat.zero_le _, Nat.le_refl _, ⟨fun r hr => (List.not_mem_nil hr).elim, Nat.le_refl _, Nat.zero_le _⟩⟩, ⟨rfl, rfl, rfl, rfl, rfl, trivial⟩, ⟨[], rfl⟩, rfl, rfl⟩
  rintro ⟨i, A, y⟩ ⟨hi, hi8, hA, hK⟩
  simp only at hi hi8 hA hK
  have wi : IntKind.i64.wrap ((i : Int) + 1) = ((i + 1 : Nat) : Int) := wrapI (by omega)
  refine aw_ofC T_ok 2009 (by kernel_rfl) ?_
  conv => whnf
  split <;> rename_i t1 <;> conv => whnf
  rotate_left
  · refine callS wakes13_con rfl ?_
    conv => whnf
    exact finB ⟨rfl⟩
  have a1 : (i : Int) < ((R.map Rec.enc).length : Int) := of_decide_eq_true t1
  split <;> rename_i t2 <;> conv => whnf
  rotate_left
  · refine callS wakes13_con rfl ?_
    conv => whnf
    exact finB ⟨rfl⟩
  have a2 : (i : Int) < 8 := of_decide_eq_true t2
  have hiR : i < R.length := by omega
  have hrow : (R.map Rec.enc)[i]? = some R[i].enc := by simp [hiR]
  have hr := h.a11.each _ (List.getElem_mem hiR)
  generalize R[i] = r at hrow hr
  have ca := jappend_con (fK A y) (kept_ok hK) r hr
  have hap := kept_app (r := r) hK
  have he : (jappP (fK A y) r).2 = 0 ∨ (jappP (fK A y) r).2 = 1 ∨ (jappP (fK A y) r).2 = 2 ∨ (jappP (fK A y) r).2 = 7 := by
    have hb := bytes_err r
    unfold jappP fappP
    by_cases c1 : fileB (fK A y) = true
    · rw [if_pos c1, if_pos c1]
      by_cases c2 : (bytesR r).2 = 0
      · rw [if_pos c2]
        by_cases c3 : roomF (fK A y) < (bytesR r).1.size
        · rw [if_pos c3]; exact .inr (.inr (.inr rfl))
        · rw [if_neg c3]; exact .inl rfl
      · rw [if_neg c2]
        rcases hb with e | e | e
        · exact absurd e c2
        · exact .inr (.inl e)
        · exact .inr (.inr (.inl e))
    · rw [if_neg c1]; exact .inr (.inl rfl)
  generalize jappP (fK A y) r = q at ca hap he
  obtain ⟨f', e⟩ := q
  simp only at hap he
  refine AW.cut (fun _ : Unit => True) (fun _ => [(1, .lf (.ptr 0 0)), (3, .lf (.ptr 1 0)), (4, Go.Rx.I y), (5, .lf (.own 2 A.length)), (6, Go.Rx.I i), (7, .lf (.ptr 3 0)), (8, Go.Rx.I e)]) (fun _ => [ask13V R S N F n0 As, fileV (fK A y), recsK A, fileV f']) [] ?_ ?_
  · refine AW.draw T_ok rfl (.one 0 (.one 1 (.one 2 (.one 3 (.one 4 (.one 5 (.one 6 (.two 7 (listPl [8, 9, 10, 11, 12, 13]) 11 (listPl [7, 8, 9, 10, 12, 13]))))))))) (by kernel_rfl) (by kernel_rfl) ?_
    conv => whnf
    refine ⟨by omega, _, hrow, ?_⟩
    conv => whnf
    refine ⟨?_, ?_⟩ <;> conv => whnf
    all_goals
      refine callU ca (fun _ => rfl) ?_
      conv => whnf
      exact ⟨(), trivial, ⟨rfl, rfl, rfl, rfl, rfl, rfl, rfl, trivial⟩, ⟨[], rfl⟩, rfl, rfl⟩
  rintro _ _
  refine aw_ofC T_ok 1013 (by kernel_rfl) ?_
  conv => whnf
  refine callS (num_con e (by omega)) rfl ?_
  conv => whnf
  split <;> rename_i t3 <;> conv => whnf
  · exact ⟨(i + 1, A, y), ⟨⟨by show i + 1 ≤ R.length; omega, by show i + 1 ≤ 8; omega, by show A.length ≤ i + 1; omega, hK⟩, by show R.length - (i + 1) < R.length - i; omega⟩, ⟨rfl, rfl, rfl, rfl, congrArg Go.Rx.I wi, trivial⟩, ⟨[_], rfl⟩, rfl, rfl⟩
  have e0 : e = 0 := by
    have : (e != 0) = false := t3
    simpa using this
  obtain ⟨hK', hf'⟩ := hap e0
  clear hap he ca
  subst hf'
  refine ⟨by omega, _, hrow, ?_⟩
  conv => whnf
  refine ⟨rfl, _, .inl rfl, ?_⟩
  conv => whnf
  refine ⟨List.length_map .., by show (A.length + 1) * 80 ≤ _; omega, ?_⟩
  conv => whnf
  obtain ⟨A', hA'⟩ : ∃ A', A' = A ++ [r] := ⟨_, rfl⟩
  have hA'l : A'.length = A.length + 1 := by rw [hA', List.length_append]; rfl
  have hA'm : A.map Rec.enc ++ [r.enc] = A'.map Rec.enc := by rw [hA', List.map_append]; rfl
  refine AW.cut (fun y' : Nat => KeptA A' y') (fun y' => [(1, .lf (.ptr 0 0)), (3, .lf (.ptr 1 0)), (4, Go.Rx.I y'), (5, .lf (.own 2 A'.length)), (6, Go.Rx.I i)]) (fun y' => [ask13V R S N F n0 As, fileV (fK A' y'), recsK A']) [] (aw_of T_ok (by kernel_rfl) ?_) ?_
  · obtain ⟨hK2, hsy⟩ := kept_sync hK'
    have cs := fsync_con (fK (A ++ [r]) y) (kept_ok hK')
    rw [hsy] at cs
    conv => whnf
    refine .inl ⟨by omega, by decide, by omega, ?_⟩
    conv => whnf
    split <;> rename_i t4 <;> conv => whnf
    · refine callU cs (fun _ => rfl) ?_
      conv => whnf
      refine callS (num_con 0 (by decide)) rfl ?_
      conv => whnf
      refine ⟨by rw [List.length_append, List.length_map], ?_⟩
      conv => whnf
      refine ⟨A'.length, hA' ▸ hK2, ⟨rfl, rfl, ?va, ?vb, rfl, trivial⟩, ⟨[?vc, ?vd, ?ve], ?vf⟩, rfl, rfl⟩
      case va => exact congrArg (fun n : Nat => Go.Rx.I n) hA'l.symm
      case vb => exact congrArg (fun n => AV.lf (.own 2 n)) hA'l.symm
      case vf =>
        show [_, fileV (fK (A ++ [r]) (A ++ [r]).length), Blk.arr _ 6 (A.map Rec.enc ++ [r.enc]), _, _, _] = _
        rw [hA'm, ← hA']
        rfl
    · refine ⟨y, hA' ▸ hK', ⟨rfl, rfl, rfl, ?ua, rfl, trivial⟩, ⟨[?uc, ?ud], ?uf⟩, rfl, rfl⟩
      case ua => exact congrArg (fun n => AV.lf (.own 2 n)) hA'l.symm
      case uf =>
        show [_, fileV (fK (A ++ [r]) y), Blk.arr _ 6 (A.map Rec.enc ++ [r.enc]), _, _] = _
        rw [hA'm, ← hA']
        rfl
  intro y' hKy
  clear hA'm hK' hK hA'
  have hAm : (A'.map Rec.enc).length = A'.length := List.length_map ..
  refine aw_of T_ok (by kernel_rfl) ?_
  conv => whnf
  refine AW.loop (fun k : Nat => k ≤ 5) (fun k => [(1, .lf (.ptr 0 0)), (3, .lf (.ptr 1 0)), (4, Go.Rx.I y'), (5, .lf (.own 2 A'.length)), (6, Go.Rx.I i), (11, Go.Rx.I k)]) (fun _ => [ask13V R S N F n0 As, fileV (fK A' y'), recsK A']) (fun k => 5 - k) [] ?_ ?_
  · exact ⟨0, Nat.zero_le _, ⟨rfl, rfl, rfl, rfl, rfl, rfl, trivial⟩, ⟨[], rfl⟩, rfl, rfl⟩
  intro k hk
  have wk : IntKind.i64.wrap ((k : Int) + 1) = ((k + 1 : Nat) : Int) := wrapI (by omega)
  refine aw_ofC T_ok 2022 (by kernel_rfl) ?_
  conv => whnf
  split <;> rename_i t5 <;> conv => whnf
  rotate_left
  · exact ⟨(i + 1, A', y'), ⟨⟨by show i + 1 ≤ R.length; omega, by show i + 1 ≤ 8; omega, by show A'.length ≤ i + 1; omega, hKy⟩, by show R.length - (i + 1) < R.length - i; omega⟩, ⟨rfl, rfl, rfl, rfl, congrArg Go.Rx.I wi, trivial⟩, ⟨[], rfl⟩, rfl, rfl⟩
  have a5 : (k : Int) < 5 := of_decide_eq_true t5
  obtain ⟨keep, hkeep⟩ : ∃ keep, keep = within (IntKind.i64.wrap (IntKind.i64.wrap ((k : Int) * 13) + n0)) 90 := ⟨_, rfl⟩
  have cw := within_con (IntKind.i64.wrap (IntKind.i64.wrap ((k : Int) * 13) + n0)) 90 (by decide)
  rw [← hkeep] at cw
  obtain ⟨m, x, hm, hym, hcr, hxo, hr1, hr2, hwo⟩ := kept_crash hKy keep
  have cc := fcrash_con (fK A' y') (kept_ok hKy) keep
  rw [hcr] at cc
  have c1 := recover_con x hxo
  rw [hr1] at c1
  have c2 := recover_con (fK (A'.take m) m) hwo
  rw [hr2] at c2
  have hmt : (A'.take m).length = m := by rw [List.length_take]; omega
  have hst : ∀ r ∈ A'.take m, r.steps.length * 80 ≤ 140737488351232 := fun r hr => by
    have := (small_of (hKy.good r (List.mem_of_mem_take hr)).b).len
    omega
  have ceq := eqRecs_con (A'.take m) (A'.take m) (by omega) hst
  rw [decide_eq_true rfl] at ceq
  have wkm : WkL (.pv (.sl 6 ((A'.map Rec.enc).take (m : Int).toNat))) (.pv (encRecs (A'.take m))) := .inl (by
    show Lf.pv (.sl 6 ((A'.map Rec.enc).take m)) = _
    rw [← List.map_take])
  obtain ⟨l, hl⟩ : ∃ l, l = A'.take m := ⟨_, rfl⟩
  rw [← hl] at c1 c2 ceq wkm hmt
  have hlm : (l.map Rec.enc).length = l.length := List.length_map ..
  subst hmt
  refine AW.cut (fun _ : Unit => True) (fun _ => [(1, .lf (.ptr 0 0)), (3, .lf (.ptr 1 0)), (4, Go.Rx.I y'), (5, .lf (.own 2 A'.length)), (6, Go.Rx.I i), (11, Go.Rx.I k), (12, .lf (.ptr 3 0)), (13, Go.Rx.I 0)]) (fun _ => [ask13V R S N F n0 As, fileV (fK A' y'), recsK A', fileV x]) [] ?_ ?_
  · refine AW.draw T_ok rfl (.one 0 (.one 1 (.one 2 (.one 3 (.one 4 (.one 5 (.one 6 (.two 7 (.two 8 (listPl [9, 10, 11, 12, 13, 14]) 12 (listPl [8, 9, 10, 11, 13, 14])) 12 (listPl [7, 8, 9, 10, 11, 13, 14]))))))))) (by kernel_rfl) (by kernel_rfl) ?_
    conv => whnf
    refine ⟨?_, ?_⟩ <;> conv => whnf
    · refine callS cw rfl ?_
      conv => whnf
      refine ⟨?_, ?_⟩ <;> conv => whnf
      all_goals
        refine callU cc (fun _ => rfl) ?_
        conv => whnf
        exact ⟨(), trivial, ⟨rfl, rfl, rfl, rfl, rfl, rfl, rfl, rfl, trivial⟩, ⟨[], rfl⟩, rfl, rfl⟩
    · refine callS cw rfl ?_
      conv => whnf
      refine callU cc (fun _ => rfl) ?_
      conv => whnf
      exact ⟨(), trivial, ⟨rfl, rfl, rfl, rfl, rfl, rfl, rfl, rfl, trivial⟩, ⟨[], rfl⟩, rfl, rfl⟩
  rintro _ _
  refine aw_of T_ok (by kernel_rfl) ?_
  conv => whnf
  refine ⟨_, _, _, wk_refl _, c1, .inr ?_⟩
  conv => whnf
  refine callS (num_con 0 (by decide)) rfl ?_
  conv => whnf
  refine callS (num_con 0 (by decide)) rfl ?_
  conv => whnf
  refine ⟨hlm, ?_⟩
  conv => whnf
  split <;> rename_i t6 <;> conv => whnf
  · have : (l.length : Int) < (y' : Int) := of_decide_eq_true t6
    omega
  refine ⟨hlm, ?_⟩
  conv => whnf
  refine ⟨hAm, ?_⟩
  conv => whnf
  split <;> rename_i t7 <;> conv => whnf
  · have : (l.length : Int) > (A'.length : Int) := of_decide_eq_true t7
    omega
  refine ⟨hlm, ?_⟩
  conv => whnf
  refine .inl ⟨hAm, by omega, by show (l.length : Int) ≤ (A'.length : Int); omega, ?_⟩
  conv => whnf
  refine ⟨hlm, ?_⟩
  conv => whnf
  refine ⟨hAm, ?_⟩
  conv => whnf
  refine callW ceq ⟨.inl rfl, .inr (.inl ⟨_, _, rfl, rfl, wkm⟩), trivial⟩ rfl ?_
  conv => whnf
  refine ⟨_, _, _, wk_refl _, c2, .inr ?_⟩
  conv => whnf
  refine callS (num_con 0 (by decide)) rfl ?_
  conv => whnf
  refine ⟨hlm, ?_⟩
  conv => whnf
  refine ⟨hlm, ?_⟩
  conv => whnf
  refine callS ceq rfl ?_
  conv => whnf
  split <;> rename_i t8 <;> conv => whnf
  · have : (!(((fK l l.length).safe == (fK l l.length).safe) && (((fK l l.length).tail == (fK l l.length).tail) && (((fK l l.length).cap == (fK l l.length).cap) && true)))) = true := t8
    rw [file_same] at this
    cases this
  exact ⟨k + 1, ⟨by omega, by omega⟩, ⟨rfl, rfl, rfl, rfl, rfl, congrArg Go.Rx.I wk, trivial⟩, ⟨_, rfl⟩, rfl, rfl⟩
end Go.Proofs.Yteebnpkoephjnaa.Rx
