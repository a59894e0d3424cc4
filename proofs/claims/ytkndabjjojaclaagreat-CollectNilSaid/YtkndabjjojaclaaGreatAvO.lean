/- A run on the abstract heap is a true word of the model's runs: operations, regions without a draw. Generic: no program in it. -/
import Derived.Test.YtkndabjjojaclaaGreatAvN
set_option linter.constructorNameAsVariable false
set_option linter.unusedVariables false
set_option linter.unusedSimpArgs false
namespace Go.Av
open Go.RowKit

section
variable {P : Program} {ρ : Rn} {e : Env} {a : Act} {s : St} {w : World} {cx : Cx}

theorem cOp_defer {o : Oper} {k : KOp} (h : cOp P o = some k) : ∀ c, o.op ≠ .defer c := by
  intro c hc
  simp [cOp, hc] at h

/-- what carrying out one operation leaves -/
def OPost (ρ : Rn) (s : St) (w : World) (v : AV) (s' : St) (a : Act) (o : Oper) (K : Act → World → Prop) : Prop :=
  ∀ x ρ' w', R ρ' v x → Conc ρ' s' w' → Chg ρ s w ρ' s' w' → K (a.put o.dst x) w'

def FSound (P : Program) (cx : Cx) (n : Nat) : Prop :=
  ∀ g vs s v s', runF cx n g vs s = some (v, s') → ∀ ρ w args m, Rs ρ vs args → Conc ρ s w → Free ρ s s' → CallsIn (WR none) m P g ⟨args⟩ w (FPost ρ s w v s')
def OSound (P : Program) (cx : Cx) (n : Nat) : Prop :=
  ∀ (o : Oper) k, cOp P o = some k → ∀ e s v s', runO cx n k e s = some (v, s') → ∀ ρ a w r m K Q, RE ρ e a → Conc ρ s w → Free ρ s s' → OPost ρ s w v s' a o K → o.wpIn (WR r) m P a w K Q

theorem wpIn_good {o : Oper} {k : KOp} {v : AV} {s' : St} {r : Option Nat} {m : Nat} {K : Act → World → Prop} {Q : Exit → Act → World → Prop} (hk : cOp P o = some k) (hg : Good P (execOp a.eval o) ρ s w v s') (h : OPost ρ s w v s' a o K) : o.wpIn (WR r) m P a w K Q := by
  obtain ⟨x, ρ', w', nx, hrun, hnx, hr, hc, hch⟩ := hg
  refine ⟨fun _ _ => trivial, ?_⟩
  rw [Oper.semAt_eq _ _ _ (cOp_defer hk), hrun]
  rcases hnx with rfl | ⟨rfl, rfl⟩
  · exact h x ρ' w' hr hc hch
  · exact h undef ρ' w' hr hc hch

/-- a function with a body is entered -/
theorem callFunc_enter {g : Nat} {fn : Func} (hf : P.funcs[g]? = some fn) (hb : fn.body.isSome = true) (hn : (fn.name == "runtime.NumGoroutine") = false) (args : Array Value) (w : World) : (callFunc g args).run P w = .ok (.enter g args) w := by
  have hb' : fn.body.isNone = false := by cases h : fn.body <;> simp_all
  simp only [callFunc, Sem.run_bind, run_program, Result.andThen_ok, hf]
  rw [if_neg (by simp [hn]), if_neg (by simp [hb'])]
  rfl

theorem cF_spec {fn : Func} {kf : KFunc} (h : cF P fn = some kf) : ∃ c rs, fn.body = some c ∧ cRes P fn.results.toList = some rs ∧ (fn.name == "runtime.NumGoroutine") = false ∧ kf = { nt := fn.ntmps, res := rs, body := cC P fn.ntmps c } := by
  unfold cF at h
  split at h
  · rename_i c rs h1 h2 h3
    simp only [Option.some.injEq] at h
    exact ⟨c, rs, h1, h2, h3, h.symm⟩
  · cases h

theorem enters (hcx : CxOK P cx) {n : Nat} {g : Nat} {vs : List AV} {s : St} {v : AV} {s' : St} (h : runF cx n g vs s = some (v, s')) (args : Array Value) (w : World) : (callFunc g args).run P w = .ok (.enter g args) w := by
  cases n with
  | zero => simp [runF] at h
  | succ n =>
    simp only [runF] at h
    split at h
    · rename_i F hF
      obtain ⟨⟨fn, h1, h2, h3⟩, _⟩ := hcx.orcs g F hF
      exact callFunc_enter h1 h2 h3 args w
    · split at h
      · cases h
      · rename_i kf hkf
        obtain ⟨fn, h1, h2⟩ := hcx.funcs g kf hkf
        obtain ⟨c, rs, h3, _, h5, _⟩ := cF_spec h2
        exact callFunc_enter h1 (by rw [h3]; rfl) h5 args w

theorem method_run {t : TypeId} {m : String} {g : Nat} (h : methOf P t m = some g) (v : Value) (n : Nat) (w : World) : (method (n + 1) t v m).run P w = .ok (g, v) w := by
  unfold methOf at h
  split at h
  · cases h
  · rename_i i hi
    split at h
    · cases h
    · rename_i x hx
      split at h
      · rename_i f e hp hf hu
        simp only [Option.some.injEq] at h; subst h
        simp [method, typeInfo, hi, hx, hp, follow, hf, receiverAt, run_underlying hu, Place.get]
      · cases h
      · rename_i f d hnp hp hf hu
        simp only [Option.some.injEq] at h; subst h
        have hrec : ∀ wr, (receiverAt t (.val v) false wr).run P w = .ok v w := by
          intro wr
          simp only [receiverAt, Sem.run_bind, run_underlying hu, Result.andThen_ok]
          cases d <;> first | rfl | (exact absurd rfl (hnp _))
        simp [method, typeInfo, hi, hx, hp, follow, hf, hrec]
      · cases h

theorem osound_of (hcx : CxOK P cx) {n : Nat} (hF : FSound P cx n) : OSound P cx (n + 1) := by
  intro o k hk e s v s' h ρ a w r m K Q he hc hf hpost
  simp only [runO] at h
  split at h
  · rename_i c args
    split at h
    · rename_i g vs htg
      -- the call
      have key : ∃ (d : Deferred) (A : List Value), (resolve a.eval (match o.op with | .call c => c | _ => default) o.type).run P w = .ok d w ∧ (invoke d.target d.args).run P w = .ok (.enter g ⟨A⟩) w ∧ Rs ρ vs A ∧ ∃ c, o.op = .call c := by
        cases hop : o.op with
        | call cl =>
          obtain ⟨cal, ar, ts⟩ := cl
          simp only [cOp, hop] at hk
          split at hk
          · rename_i f l hl
            simp only [Option.some.injEq, KOp.call.injEq] at hk
            obtain ⟨rfl, rfl⟩ := hk
            simp only [target, Option.some.injEq, Prod.mk.injEq] at htg
            obtain ⟨rfl, rfl⟩ := htg
            have rl := Rs_opds he hl
            refine ⟨{ target := .fn (.func f) #[], args := #[] ++ ar.map a.eval }, ar.toList.map a.eval, ?_, ?_, rl, _, rfl⟩
            · simp [resolve, Act.eval, Deferred.ofValue]
            · simp only [invoke]
              have : (#[] ++ ar.map a.eval ++ #[] : Array Value) = ⟨ar.toList.map a.eval⟩ := Array.ext' (by simp)
              rw [this]; exact enters hcx h _ w
          · rename_i x l hl hnf
            simp only [Option.map_eq_some_iff, KOp.call.injEq] at hk
            obtain ⟨kx, hx, rfl, rfl⟩ := hk
            have rl := Rs_opds he ‹cOs _ = some _›
            have rx := R_opd he hx
            simp only [target] at htg
            split at htg
            · rename_i f b1 b2 hv
              simp only [Option.some.injEq, Prod.mk.injEq] at htg
              obtain ⟨rfl, rfl⟩ := htg
              rw [hv] at rx
              simp only [R] at rx
              obtain ⟨x1, x2, hxe, r1, r2⟩ := rx
              refine ⟨{ target := .fn (.func f) ⟨x2⟩, args := ⟨x1⟩ ++ ar.map a.eval }, x1 ++ ar.toList.map a.eval ++ x2, ?_, ?_, Rs_append (Rs_append r1 rl) r2, _, rfl⟩
              · simp [resolve, hxe, Deferred.ofValue]
              · simp only [invoke]
                have : ((⟨x1⟩ : Array Value) ++ ar.map a.eval ++ ⟨x2⟩ : Array Value) = ⟨x1 ++ ar.toList.map a.eval ++ x2⟩ := Array.ext' (by simp)
                rw [this]; exact enters hcx h _ w
            · cases htg
          · rename_i x mname l hl
            simp only [Option.map_eq_some_iff, KOp.call.injEq] at hk
            obtain ⟨kx, hx, rfl, rfl⟩ := hk
            have rl := Rs_opds he hl
            have rx := R_opd he hx
            simp only [target] at htg
            split at htg
            · rename_i t u hv
              split at htg
              · rename_i f hm
                simp only [Option.some.injEq, Prod.mk.injEq] at htg
                obtain ⟨rfl, rfl⟩ := htg
                rw [hv] at rx
                simp only [R] at rx
                obtain ⟨y, hxe, ry⟩ := rx
                refine ⟨{ target := .fn (.method mname) #[], args := #[.iface t y] ++ ar.map a.eval }, y :: ar.toList.map a.eval, ?_, ?_, by simp only [Rs]; exact ⟨y, _, rfl, ry, rl⟩, _, rfl⟩
                · simp [resolve, hxe]
                · have h0 : (#[Value.iface t y] ++ ar.map a.eval : Array Value)[0]? = some (.iface t y) := by simp [Array.getElem?_append]
                  have h1 : (#[Value.iface t y] ++ ar.map a.eval : Array Value).extract 1 (#[Value.iface t y] ++ ar.map a.eval : Array Value).size = ar.map a.eval := Array.ext' (by simp [List.take_of_length_le])
                  have hmr := method_run (hcx.meth _ _ _ hm) y (P.types.size + 99) w
                  have hd : P.types.size + Made.depth = P.types.size + 99 + 1 := rfl
                  have h2 : (#[y] ++ ar.map a.eval : Array Value) = ⟨y :: ar.toList.map a.eval⟩ := Array.ext' (by simp)
                  simp only [invoke]
                  rw [h0]
                  simp only [h1, callMethod, Sem.run_bind, run_program, Result.andThen_ok, hd, hmr, h2]
                  exact enters hcx h _ w
              · cases htg
            · cases htg
          · rename_i b l hl
            exfalso
            split at hk <;> (repeat' split at hk) <;> simp at hk
          · cases hk
        | makeFunc fn x y => cases fn <;> simp only [cOp, hop] at hk <;> (repeat' split at hk) <;> simp at hk
        | makeMap t r => cases r <;> simp [cOp, hop] at hk
        | _ => simp only [cOp, hop] at hk <;> (repeat' split at hk) <;> simp at hk
      obtain ⟨d, A, h1, h2, h3, c', hop⟩ := key
      rw [hop] at h1
      have hcall := hF g vs s v s' h ρ w A (m - 1) h3 hc hf
      refine ⟨fun _ _ => trivial, ?_⟩
      rw [Oper.semAt_eq _ _ _ (cOp_defer hk)]
      have hex : (execOp a.eval o).run P w = .ok (.enter g ⟨A⟩) w := by
        simp only [execOp, hop, Sem.run_bind]
        simp only at h1
        rw [h1]
        exact h2
      rw [hex]
      refine ⟨fun h => by simp [WR] at h, ?_⟩
      refine CallsIn.mono hcall ?_
      rintro en w' ⟨x, ρ', rfl, hr, hc', hch⟩
      exact hpost x ρ' w' hr hc' hch
    · cases h
  · exact wpIn_good hk (evOp_sound he hc hk h hf) hpost
end
end Go.Av
