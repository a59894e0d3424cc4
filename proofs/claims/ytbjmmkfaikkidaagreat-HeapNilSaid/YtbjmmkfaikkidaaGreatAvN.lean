/- A run on the abstract heap is a true word of the model's runs: control, calls. Generic: no program in it. -/
import Derived.Test.YtbjmmkfaikkidaaGreatAvM
set_option linter.constructorNameAsVariable false
set_option linter.unusedVariables false
set_option linter.unusedSimpArgs false
namespace Go.Av
open Go.RowKit

theorem evOp_next {e : Env} {s : St} {k : KOp} {v : AV} {s' : St} (h : evOp e s k = some (v, s')) : s.next ≤ s'.next := by
  cases k <;> simp only [evOp] at h <;> (repeat' split at h) <;> first
    | (cases h; done)
    | (simp only [Option.some.injEq, Prod.mk.injEq] at h
       obtain ⟨_, rfl⟩ := h
       simp [newRow, putRow])

structure OrcNext (cx : Cx) : Prop where
  orc : ∀ g F, cx.orc g = some F → ∀ vs s v s', F vs s = some (v, s') → s.next ≤ s'.next

section
variable {cx : Cx} (ho : OrcNext cx)
include ho
theorem run_next (n : Nat) : (∀ c e s x e' s', runC cx n c e s = some (x, e', s') → s.next ≤ s'.next) ∧ (∀ k e s v s', runO cx n k e s = some (v, s') → s.next ≤ s'.next) ∧
    (∀ l e s e' s', runOps cx n l e s = some (e', s') → s.next ≤ s'.next) ∧ (∀ l e s sg rd e' s', runDraw cx n l e s sg rd = some (e', s') → s.next ≤ s'.next) ∧
    (∀ g vs s v s', runF cx n g vs s = some (v, s') → s.next ≤ s'.next) ∧ (∀ id vs s v s', runR cx n id vs s = some (v, s') → s.next ≤ s'.next) := by
  induction n with
  | zero => refine ⟨?_, ?_, ?_, ?_, ?_, ?_⟩ <;> intros <;> simp_all [runC, runO, runOps, runDraw, runF, runR]
  | succ n ih =>
    obtain ⟨hC, hO, hOps, hD, hF, hR⟩ := ih
    refine ⟨?_, ?_, ?_, ?_, ?_, ?_⟩
    · intro c e s x e' s' h
      simp only [runC] at h
      split at h
      · simp only [Option.some.injEq, Prod.mk.injEq] at h; obtain ⟨_, _, rfl⟩ := h; exact Nat.le_refl _
      · simp only [Option.some.injEq, Prod.mk.injEq] at h; obtain ⟨_, _, rfl⟩ := h; exact Nat.le_refl _
      · cases h
      · split at h
        · rename_i h1; simp only [Option.some.injEq, Prod.mk.injEq] at h; obtain ⟨_, _, rfl⟩ := h; exact hOps _ _ _ _ _ h1
        · cases h
      · split at h
        · rename_i h1; simp only [Option.some.injEq, Prod.mk.injEq] at h; obtain ⟨_, _, rfl⟩ := h; exact hD _ _ _ _ _ _ _ h1
        · cases h
      · split at h
        · rename_i h1; exact Nat.le_trans (hC _ _ _ _ _ _ h1) (hC _ _ _ _ _ _ h)
        · exact hC _ _ _ _ _ _ h
      · split at h
        · exact hC _ _ _ _ _ _ h
        · exact hC _ _ _ _ _ _ h
        · cases h
      · split at h
        · rename_i h1
          split at h
          · simp only [Option.some.injEq, Prod.mk.injEq] at h; obtain ⟨_, _, rfl⟩ := h; exact hC _ _ _ _ _ _ h1
          · simp only [Option.some.injEq, Prod.mk.injEq] at h; obtain ⟨_, _, rfl⟩ := h; exact hC _ _ _ _ _ _ h1
        · exact hC _ _ _ _ _ _ h
      · split at h
        · rename_i h1; exact Nat.le_trans (hC _ _ _ _ _ _ h1) (hC _ _ _ _ _ _ h)
        · exact hC _ _ _ _ _ _ h
      · simp only [Option.some.injEq, Prod.mk.injEq] at h; obtain ⟨_, _, rfl⟩ := h; exact Nat.le_refl _
      · split at h
        · split at h
          · rename_i h1
            have hn := hF _ _ _ _ _ h1
            simp only at hn
            split at h <;> first
              | (cases h; done)
              | (simp only [Option.some.injEq, Prod.mk.injEq] at h; obtain ⟨_, _, rfl⟩ := h; simp only [setLoop]; omega)
          · cases h
        · cases h
    · intro k e s v s' h
      simp only [runO] at h
      split at h
      · split at h
        · exact hR _ _ _ _ _ h
        · split at h
          · exact hF _ _ _ _ _ h
          · cases h
      · exact evOp_next h
    · intro l e s e' s' h
      simp only [runOps] at h
      split at h
      · simp only [Option.some.injEq, Prod.mk.injEq] at h; obtain ⟨_, rfl⟩ := h; exact Nat.le_refl _
      · split at h
        · split at h
          · rename_i h1; exact Nat.le_trans (hO _ _ _ _ _ h1) (hOps _ _ _ _ _ h)
          · cases h
        · exact hOps _ _ _ _ _ h
    · intro l e s sg rd e' s' h
      simp only [runDraw] at h
      split at h
      · split at h
        · simp only [Option.some.injEq, Prod.mk.injEq] at h; obtain ⟨_, rfl⟩ := h; exact Nat.le_refl _
        · cases h
      · split at h
        · split at h
          · rename_i h1; exact Nat.le_trans (hO _ _ _ _ _ h1) (hD _ _ _ _ _ _ _ h)
          · cases h
        · exact hD _ _ _ _ _ _ _ h
    · intro g vs s v s' h
      simp only [runF] at h
      split at h
      · rename_i F hF'; exact ho.orc g F hF' _ _ _ _ h
      · split at h
        · cases h
        · split at h
          · cases h
          · split at h
            · cases h
            · rename_i h1
              split at h
              · simp only [Option.some.injEq, Prod.mk.injEq] at h; obtain ⟨_, rfl⟩ := h; exact hC _ _ _ _ _ _ h1
              · simp only [Option.some.injEq, Prod.mk.injEq] at h; obtain ⟨_, rfl⟩ := h; exact hC _ _ _ _ _ _ h1
              · cases h
            · cases h
    · intro id vs s v s' h
      simp only [runR] at h
      split at h
      · split at h
        · split at h
          · rename_i h1
            have hn1 := hC _ _ _ _ _ _ h1
            split at h
            · split at h
              · rename_i h2
                have hn2 := hC _ _ _ _ _ _ h2
                simp only [setLoop] at hn2
                split at h
                · split at h <;> (simp only [Option.some.injEq, Prod.mk.injEq] at h; obtain ⟨_, rfl⟩ := h; simp only [setLoop]; omega)
                · cases h
              · cases h
            · cases h
          · cases h
        · cases h
      · cases h
end

/-! ### the model's side -/
/-- no fence, in an activation or in a round -/
def WR (r : Option Nat) : Fence := { fn := fun _ => True, depth := none, alive := false, round := r }

def Ex.out : Ex → Exit
  | .norm => .normal
  | .ex id => .exit id
  | .ret => .ret

/-- a call ends as said -/
def FPost (ρ : Rn) (s : St) (w : World) (v : AV) (s' : St) : Ending → World → Prop :=
  fun e w' => ∃ x ρ', e = .returned x ∧ R ρ' v x ∧ Conc ρ' s' w' ∧ Chg ρ s w ρ' s' w'

structure CxOK (P : Program) (cx : Cx) : Prop extends OrcNext cx where
  funcs : ∀ g kf, cx.funcs.get g = some kf → ∃ fn, P.funcs[g]? = some fn ∧ cF P fn = some kf
  meth : ∀ t m g, cx.meth t m = some g → methOf P t m = some g
  mixed : P.follows .mixedOrders = true
  comp : cx.comp = cC P
  orcs : ∀ g F, cx.orc g = some F → (∃ fn, P.funcs[g]? = some fn ∧ fn.body.isSome = true ∧ (fn.name == "runtime.NumGoroutine") = false) ∧ ∀ vs s v s', F vs s = some (v, s') → ∀ ρ w args m, Rs ρ vs args → Conc ρ s w → Free ρ s s' →
    CallsIn (WR none) m P g ⟨args⟩ w (FPost ρ s w v s')

section
variable {P : Program} {ρ : Rn} {e : Env} {a : Act} {s : St} {w : World}

theorem ev_put_same {e : Env} {d : Nat} {v : AV} : ev (put e (some d) v) (.t d) = v := by
  simp [ev, put, Tr.get_set]
theorem RE.putV (he : RE ρ e a) {nt : Nat} (hnt : a.tmps.size = nt) {d : Option Nat} (hd : ∀ x, d = some x → x < nt) {v : AV} {x : Value} (hr : R ρ v x) : RE ρ (put e d v) (a.put d x) := by
  cases d with
  | none => exact he
  | some d =>
    intro n
    have hlt := hd d rfl
    simp only [Go.Av.put, Act.put, ev, Tr.get_set]
    by_cases h : n = d
    · subst h
      simp only [if_true, Option.getD_some]
      rw [Array.getD_eq_getD_getElem?, Array.getElem?_setIfInBounds]
      simp [hnt, hlt, hr]
    · rw [if_neg h, Array.getD_eq_getD_getElem?, Array.getElem?_setIfInBounds_ne (Ne.symm h), ← Array.getD_eq_getD_getElem?]
      exact he n
theorem put_size {nt : Nat} (hnt : a.tmps.size = nt) (d : Option Nat) (x : Value) : (a.put d x).tmps.size = nt := by
  cases d <;> simp [Act.put, hnt]
theorem put_defers (d : Option Nat) (x : Value) : (a.put d x).defers = a.defers := by
  cases d <;> rfl

theorem cOper_op {ops : Array Oper} {nt : Nat} {o : Oper} {k : KOp} (h : (cOper P ops nt o).op = k) (hb : k ≠ .bad) : cOp P o = some k ∧ ∀ d, o.dst = some d → d < nt := by
  simp only [cOper] at h
  split at h
  · rename_i hd
    refine ⟨?_, fun d hd' => ?_⟩
    · cases hc : cOp P o with
      | none => rw [hc] at h; exact absurd h.symm hb
      | some k' => rw [hc] at h; simp at h; rw [h]
    · rw [hd'] at hd; simpa using hd
  · exact absurd h.symm hb
/-- is an operation carried out? -/
theorem wanted_iff (he : RE ρ e a) (ops : Array Oper) (nt : Nat) (o : Oper) : Region.wanted o (yielded ops a.tmps) = wanted e (cOper P ops nt o).guard := by
  simp only [cOper, Region.wanted, wanted]
  cases hg : o.guard with
  | none => simp
  | some g =>
    obtain ⟨j, b⟩ := g
    simp only [Option.map_some, yielded]
    cases hj : (ops[j]?).bind (·.dst) with
    | none => simp
    | some t =>
      simp only [Option.bind_some]
      have := he t
      simp only [ev] at this
      cases hv : e.get t with
      | none =>
        rw [hv] at this
        simp only [Option.getD_none, AV.u, R] at this
        obtain ⟨l, hl, hl2⟩ := this
        rw [Array.getD_eq_getD_getElem?] at hl
        cases ht : a.tmps[t]? with
        | none => simp
        | some x =>
          rw [ht] at hl
          simp only [Option.getD_some] at hl
          subst hl; simp
      | some v =>
        rw [hv] at this
        simp only [Option.getD_some] at this
        rw [Array.getD_eq_getD_getElem?] at this
        cases ht : a.tmps[t]? with
        | none =>
          rw [ht] at this
          simp only [Option.getD_none] at this
          cases v <;> first
            | (simp; done)
            | (simp only [R, undef] at this; exact absurd this (by simp))
        | some x =>
          rw [ht] at this
          simp only [Option.getD_some] at this
          cases v <;> simp only [R] at this <;> first
            | (obtain ⟨_, _, _, ⟨_, _, rfl⟩ | ⟨_, rfl⟩⟩ := this <;> simp; done)
            | (subst this; cases b <;> simp [*]; done)
            | (obtain ⟨_, _, rfl⟩ := this; simp; done)
            | (obtain ⟨_, _, _, rfl, _⟩ := this; simp; done)
            | (obtain ⟨_, _, rfl, _⟩ := this; simp; done)
            | (obtain ⟨_, rfl, _⟩ := this; simp; done)
end
end Go.Av
