/- A call's own result, taken as rows that stay. -/
import Derived.Test.YtooiiihaijpbaaaRxData
set_option linter.unusedVariables false
set_option linter.unusedSimpArgs false
namespace Go.Rx
open Go.RowKit
def ofTC : TC → AV
  | .lf l => .lf l
  | .agg l => .agg l
theorem ofTC_rep {G : Gh} {bk : List Blk} {w : World} : ∀ {ts : List TC} {us : List Value}, Fa (RepT G bk w) ts us → Fa (RepA G bk w) (ts.map ofTC) us
  | [], [], _ => trivial
  | t :: ts, u :: us, h => ⟨by cases t <;> exact h.1, ofTC_rep h.2⟩
  | [], _ :: _, h => h.elim
  | _ :: _, [], h => h.elim
theorem Con.stays {P : Program} {f : FuncId} {args : List AV} {ts : List TC} {r : AV} {nb : List Blk} (h : Con P f args (.tup ts) nb) (h2 : 2 ≤ ts.length)
    (hk : argsK nb (ts.map ofTC) fun _ ys => ∃ zs, Fa WkA ys zs ∧ pack zs = some r) : Con P f args r [] := by
  refine ⟨h.1, rfl, fun w S us hS hargs => (h.2.2 w S us hS hargs).mono fun e w' ⟨u, G', he, hr, hm⟩ => ?_⟩
  obtain ⟨vs, rfl, hvs⟩ := hr
  obtain ⟨G2, b2, ys, t2, m2, hys, zs, hwk, hpk⟩ := argsK_sound hm (ofTC_rep hvs) hk
  have hp := pack_rep (wks_rep hwk hys) hpk
  have hl : vs.toArray.size ≠ 1 := by have := hvs.length; simp; omega
  rw [dif_neg hl] at hp
  exact ⟨_, Gh.base G2.S, he, hp, fun b B hb => by simp at hb, fun b b' g hb => by simp at hb, fun g o b hs ha => absurd (alive_lt ha) (by simp), m2.slt, fun b g hb => by simp at hb, fun b g hb => by simp at hb, m2.s0, m2.snew, m2.os, m2.tape, m2.output, m2.size, m2.block, Nat.le_refl _, ⟨m2.t0.S, m2.t0.cell, Nat.le_refl _, fun b hb => absurd hb (Nat.not_lt_zero _), fun b sz rows h => (by unfold rowsOf at h; simp [Ctx.base] at h)⟩⟩
theorem Con.stay1 {P : Program} {f : FuncId} {args : List AV} {x r : AV} {nb : List Blk} (h : Con P f args x nb) (hx : ∀ ts, x ≠ .tup ts)
    (hk : argsK nb [x] fun _ ys => ∃ zs, Fa WkA ys zs ∧ pack zs = some r) : Con P f args r [] := by
  refine ⟨h.1, rfl, fun w S us hS hargs => (h.2.2 w S us hS hargs).mono fun e w' ⟨u, G', he, hr, hm⟩ => ?_⟩
  obtain ⟨G2, b2, ys, t2, m2, hys, zs, hwk, hpk⟩ := argsK_sound hm (xs := [x]) (vs := [u]) ⟨hr, trivial⟩ hk
  have hp := pack_rep (wks_rep hwk hys) hpk
  exact ⟨_, Gh.base G2.S, he, hp, fun b B hb => by simp at hb, fun b b' g hb => by simp at hb, fun g o b hs ha => absurd (alive_lt ha) (by simp), m2.slt, fun b g hb => by simp at hb, fun b g hb => by simp at hb, m2.s0, m2.snew, m2.os, m2.tape, m2.output, m2.size, m2.block, Nat.le_refl _, ⟨m2.t0.S, m2.t0.cell, Nat.le_refl _, fun b hb => absurd hb (Nat.not_lt_zero _), fun b sz rows h => (by unfold rowsOf at h; simp [Ctx.base] at h)⟩⟩
end Go.Rx
