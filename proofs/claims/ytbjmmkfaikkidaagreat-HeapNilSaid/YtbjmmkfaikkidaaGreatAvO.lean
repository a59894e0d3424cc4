/- A run on the abstract heap is a true word of the model's runs: operations, regions without a draw. Generic: no program in it. -/
import Derived.Test.YtbjmmkfaikkidaaGreatAvN
import Derived.RangeFuncRecord
set_option linter.constructorNameAsVariable false
set_option linter.unusedVariables false
set_option linter.unusedSimpArgs false
namespace Go.Av
open Go.RowKit

section
variable {P : Program} {ρ : Rn} {e : Env} {a : Act} {s : St} {w : World} {cx : Cx}

theorem cOp_defer {o : Oper} {k : KOp} (h : cOp P o = some k) : ∀ c, o.op ≠ .defer c := by
  intro c hc
  simp [cOp, hc] at h

/-- what carrying out one operation leaves -/
def OPost (ρ : Rn) (s : St) (w : World) (v : AV) (s' : St) (a : Act) (o : Oper) (K : Act → World → Prop) : Prop :=
  ∀ x ρ' w', R ρ' v x → Conc ρ' s' w' → Chg ρ s w ρ' s' w' → K (a.put o.dst x) w'

def FSound (P : Program) (cx : Cx) (n : Nat) : Prop :=
  ∀ g vs s v s', runF cx n g vs s = some (v, s') → ∀ ρ w args m, Rs ρ vs args → Conc ρ s w → Free ρ s s' → CallsIn (WR none) m P g ⟨args⟩ w (FPost ρ s w v s')
def OSound (P : Program) (cx : Cx) (n : Nat) : Prop :=
  ∀ (o : Oper) k, cOp P o = some k → ∀ e s v s', runO cx n k e s = some (v, s') → ∀ ρ a w r m K Q, RE ρ e a → Conc ρ s w → Free ρ s s' → OPost ρ s w v s' a o K → o.wpIn (WR r) m P a w K Q

theorem wpIn_good {o : Oper} {k : KOp} {v : AV} {s' : St} {r : Option Nat} {m : Nat} {K : Act → World → Prop} {Q : Exit → Act → World → Prop} (hk : cOp P o = some k) (hg : Good P (execOp a.eval o) ρ s w v s') (h : OPost ρ s w v s' a o K) : o.wpIn (WR r) m P a w K Q := by
  obtain ⟨x, ρ', w', nx, hrun, hnx, hr, hc, hch⟩ := hg
  refine ⟨fun _ _ => trivial, ?_⟩
  rw [Oper.semAt_eq _ _ _ (cOp_defer hk), hrun]
  rcases hnx with rfl | ⟨rfl, rfl⟩
  · exact h x ρ' w' hr hc hch
  · exact h undef ρ' w' hr hc hch

/-- a function with a body is entered -/
theorem callFunc_enter {g : Nat} {fn : Func} (hf : P.funcs[g]? = some fn) (hb : fn.body.isSome = true) (hn : (fn.name == "runtime.NumGoroutine") = false) (args : Array Value) (w : World) : (callFunc g args).run P w = .ok (.enter g args) w := by
  have hb' : fn.body.isNone = false := by cases h : fn.body <;> simp_all
  simp only [callFunc, Sem.run_bind, run_program, Result.andThen_ok, hf]
  rw [if_neg (by simp [hn]), if_neg (by simp [hb'])]
  rfl

theorem cF_spec {fn : Func} {kf : KFunc} (h : cF P fn = some kf) : ∃ c rs, fn.body = some c ∧ cRes P fn.results.toList = some rs ∧ (fn.name == "runtime.NumGoroutine") = false ∧ kf = { nt := fn.ntmps, res := rs, body := cC P fn.ntmps c } := by
  unfold cF at h
  split at h
  · rename_i c rs h1 h2 h3
    simp only [Option.some.injEq] at h
    exact ⟨c, rs, h1, h2, h3, h.symm⟩
  · cases h

theorem enters (hcx : CxOK P cx) {n : Nat} {g : Nat} {vs : List AV} {s : St} {v : AV} {s' : St} (h : runF cx n g vs s = some (v, s')) (args : Array Value) (w : World) : (callFunc g args).run P w = .ok (.enter g args) w := by
  cases n with
  | zero => simp [runF] at h
  | succ n =>
    simp only [runF] at h
    split at h
    · rename_i F hF
      obtain ⟨⟨fn, h1, h2, h3⟩, _⟩ := hcx.orcs g F hF
      exact callFunc_enter h1 h2 h3 args w
    · split at h
      · cases h
      · rename_i kf hkf
        obtain ⟨fn, h1, h2⟩ := hcx.funcs g kf hkf
        obtain ⟨c, rs, h3, _, h5, _⟩ := cF_spec h2
        exact callFunc_enter h1 (by rw [h3]; rfl) h5 args w

theorem method_run {t : TypeId} {m : String} {g : Nat} (h : methOf P t m = some g) (v : Value) (n : Nat) (w : World) : (method (n + 1) t v m).run P w = .ok (g, v) w := by
  unfold methOf at h
  split at h
  · cases h
  · rename_i i hi
    split at h
    · cases h
    · rename_i x hx
      split at h
      · rename_i f e hp hf hu
        simp only [Option.some.injEq] at h; subst h
        simp [method, typeInfo, hi, hx, hp, follow, hf, receiverAt, run_underlying hu, Place.get]
      · cases h
      · rename_i f d hnp hp hf hu
        simp only [Option.some.injEq] at h; subst h
        have hrec : ∀ wr, (receiverAt t (.val v) false wr).run P w = .ok v w := by
          intro wr
          simp only [receiverAt, Sem.run_bind, run_underlying hu, Result.andThen_ok]
          cases d <;> first | rfl | (exact absurd rfl (hnp _))
        simp [method, typeInfo, hi, hx, hp, follow, hf, hrec]
      · cases h

/-! marks among the deferred calls: a range over a function leaves one -/
def markD (D : Nat) : Deferred := { target := .collected D, args := #[] }
def Mks (b0 : Nat) (ρ : Rn) (s : St) (w : World) (Ds : List Nat) : Prop := Ds.Nodup ∧ ∀ D ∈ Ds, b0 ≤ D ∧ w.heap[D]? = some (.deferred (some [])) ∧ ¬ Live ρ s D
theorem Mks.nil (b0 : Nat) (ρ : Rn) (s : St) (w : World) : Mks b0 ρ s w [] := ⟨List.nodup_nil, by simp⟩
theorem Mks.lt {b0 : Nat} {ρ : Rn} {s : St} {w : World} {Ds : List Nat} (h : Mks b0 ρ s w Ds) {D : Nat} (hD : D ∈ Ds) : D < w.heap.size := (Array.getElem?_eq_some_iff.1 (h.2 D hD).2.1).1
theorem Mks.chg {b0 : Nat} {ρ ρ' : Rn} {s s' : St} {w w' : World} {Ds : List Nat} (h : Mks b0 ρ s w Ds) (hch : Chg ρ s w ρ' s' w') : Mks b0 ρ' s' w' Ds := by
  refine ⟨h.1, fun D hD => ?_⟩
  obtain ⟨h1, h2, h3⟩ := h.2 D hD
  exact ⟨h1, (hch.same D (h.lt hD) fun ho => h3 ho.live).trans h2, fun hl => h3 (hch.live D (h.lt hD) hl)⟩
theorem Mks.trans {b0 : Nat} {ρ ρ' : Rn} {s s' : St} {w w' : World} {Ds Ds' : List Nat} (h : Mks b0 ρ s w Ds) (h' : Mks w.heap.size ρ' s' w' Ds') (hch : Chg ρ s w ρ' s' w') (hle : b0 ≤ w.heap.size) : Mks b0 ρ' s' w' (Ds' ++ Ds) := by
  have h2 := h.chg hch
  refine ⟨?_, ?_⟩
  · rw [List.nodup_append]
    refine ⟨h'.1, h.1, ?_⟩
    rintro D hD D' hD' rfl
    have := (h'.2 D hD).1
    have := h.lt hD'
    omega
  · intro D hD
    rw [List.mem_append] at hD
    rcases hD with hD | hD
    · obtain ⟨g1, g2, g3⟩ := h'.2 D hD
      exact ⟨by omega, g2, g3⟩
    · exact h2.2 D hD

/-- what a piece of code leaves -/
def CPost (ρ : Rn) (s : St) (w : World) (nt : Nat) (ds : List Deferred) (x : Ex) (e' : Env) (s' : St) : Exit → Act → World → Prop :=
  fun ex a' w' => ex = x.out ∧ a'.tmps.size = nt ∧ ∃ ρ' Ds, a'.defers = Ds.map markD ++ ds ∧ Mks w.heap.size ρ' s' w' Ds ∧ RE ρ' e' a' ∧ Conc ρ' s' w' ∧ Chg ρ s w ρ' s' w'
def CSound (P : Program) (cx : Cx) (n : Nat) : Prop :=
  ∀ (c : Code) nt e s x e' s', runC cx n (cC P nt c) e s = some (x, e', s') → ∀ ρ a w r m, (r = none ∨ noRng c = true) → RE ρ e a → a.tmps.size = nt → Conc ρ s w → Free ρ s s' → c.wpIn (WR r) m P (CPost ρ s w nt a.defers x e' s') a w
def RSound (P : Program) (cx : Cx) (n : Nat) : Prop :=
  ∀ id vs s v s', runR cx n id vs s = some (v, s') → ∀ ρ w args r m L, Rs ρ vs args → Conc ρ s w → Free ρ s s' → ρ id = some L →
    ∃ f tmps ca cb, (Instr.yield L.b ⟨args⟩).run P w = .ok (.round L.b f tmps ca cb) w ∧ RoundIn (WR r) m P L.b f tmps ca cb w (FPost ρ s w v s')

theorem re_putAll : ∀ (ps : List Nat) (vs : List AV) (args : List Value) (e : Env) (A : Array Value) (nt : Nat), (∀ n, R ρ ((e.get n).getD .u) (A.getD n undef)) → Rs ρ vs args → A.size = nt → (∀ p ∈ ps, p < nt) →
    (∀ n, R ρ (((putAll e ps vs).get n).getD .u) (((ps.zip args).foldl (fun tmps (x : Nat × Value) => tmps.setIfInBounds x.1 x.2) A).getD n undef)) ∧ ((ps.zip args).foldl (fun tmps (x : Nat × Value) => tmps.setIfInBounds x.1 x.2) A).size = nt
  | [], vs, args, e, A, nt, h, hr, hs, hp => by simp only [putAll, List.zip_nil_left, List.foldl_nil]; exact ⟨h, hs⟩
  | p :: ps, [], args, e, A, nt, h, hr, hs, hp => by
    simp only [Rs] at hr; subst hr
    simp only [putAll, List.zip_nil_right, List.foldl_nil]; exact ⟨h, hs⟩
  | p :: ps, v :: vs, args, e, A, nt, h, hr, hs, hp => by
    simp only [Rs] at hr
    obtain ⟨y, r, rfl, h1, h2⟩ := hr
    simp only [putAll, List.zip_cons_cons, List.foldl_cons]
    refine re_putAll ps vs r (e.set p v) (A.setIfInBounds p y) nt ?_ h2 (by simpa using hs) (fun q hq => hp q (by simp [hq]))
    intro n
    rw [Tr.get_set]
    by_cases hn : n = p
    · subst hn
      have := hp n (by simp)
      rw [if_pos rfl, Array.getD_eq_getD_getElem?, Array.getElem?_setIfInBounds]
      simp [hs, this, h1]
    · rw [if_neg hn, Array.getD_eq_getD_getElem?, Array.getElem?_setIfInBounds_ne (Ne.symm hn), ← Array.getD_eq_getD_getElem?]
      exact h n

theorem putObj_other {w : World} {b : Nat} {o : Obj} : ∀ c, c ≠ b → (w.putObj b o).heap[c]? = w.heap[c]? := fun c h => World.putObj_heap_other h
theorem rsound_of (hcx : CxOK P cx) {n : Nat} (hC : CSound P cx n) : RSound P cx (n + 1) := by
  intro id vs s v s' h ρ w args r m L hr hc hf hL
  simp only [runR] at h
  split at h
  · rename_i pend nt le ps ca cb hg
    obtain ⟨rc, hr1, hst, hpd, hsz, hre, hps, hca, hcb⟩ := hc.at hg hL
    split at h
    · rename_i hchk
      simp only [Bool.and_eq_true, List.all_eq_true] at hchk
      obtain ⟨hlen, hps', hna, hnb⟩ := hchk
      have hlen' : vs.length = ps.length := Nat.eq_of_beq_eq_true hlen
      have hps2 : ∀ p ∈ ps, p < nt := fun p hp => Nat.le_of_ble_eq_true (hps' p hp)
      have hal := Rs_length hr
      have hy := run_yield (P := P) (args := ⟨args⟩) hr1 (by
        have : rc.params.size = ps.length := by rw [← hps]; simp
        simp [this, hal, hlen'])
      have hfold : ∀ (A : Array Value), ((rc.params.zip (⟨args⟩ : Array Value)).foldl (fun tmps (x : Nat × Value) => tmps.setIfInBounds x.1 x.2) A) = (ps.zip args).foldl (fun tmps (x : Nat × Value) => tmps.setIfInBounds x.1 x.2) A := by
        intro A
        rw [← Array.foldl_toList, Array.toList_zip, hps]
      obtain ⟨hre0, hs0⟩ := re_putAll ps vs args le rc.tmps nt hre hr hsz hps2
      refine ⟨_, _, _, _, hy, ?_⟩
      refine roundIn_of_wpIn (F := WR r) trivial ?_
      rw [hcx.comp] at h
      split at h
      · rename_i e1 s1 h1
        have hn1 := (run_next hcx.toOrcNext n).1 _ _ _ _ _ _ h1
        split at h
        · rename_i pend2 nt2 e2 ps2 ca2 cb2 hg1
          split at h
          · rename_i x e3 s2 h2
            have hn2 := (run_next hcx.toOrcNext n).1 _ _ _ _ _ _ h2
            simp only [setLoop] at hn2
            split at h
            · rename_i st3 pend3 nt3 e3' ps3 ca3 cb3 hg2
              have hs' : s2.next = s'.next := by
                split at h <;> (simp only [Option.some.injEq, Prod.mk.injEq] at h; obtain ⟨_, rfl⟩ := h; rfl)
              rw [hca, hcb]
              have hf1 : Free ρ s s1 := hf.left (by omega)
              refine wpIn_mono (hC ca nt _ s .norm e1 s1 h1 ρ { tmps := _, defers := [] } w (some L.b) m (.inr hna) ?_ ?_ hc hf1) ?_
              · intro k
                have := hre0 k
                rw [← hfold] at this
                exact this
              · have := hs0
                rw [← hfold] at this
                exact this
              · rintro ex a1 w1 ⟨rfl, g1, ρ1, Ds1, g2, g3, g4, g5, g6⟩
                have hle1 := g6.le hf1
                have hL1 := hle1 _ _ hL
                obtain ⟨r1, hb1, hst1, hpd1, hsz1, hre1, hps1, hca1, hcb1⟩ := g5.at hg1 hL1
                have hbr := run_beginRound (P := P) hb1 hst1
                refine ⟨_, hbr, ?_⟩
                have hlt1 : L.b < w1.heap.size := (Array.getElem?_eq_some_iff.1 hb1).1
                have hc2 : Conc ρ1 (setLoop s1 id .busy pend2 nt2 e2 ps2 ca2 cb2) (w1.putObj L.b (.loop { r1 with state := .busy })) :=
                  g5.change hg1 rfl hL1 putObj_other ⟨_, World.putObj_heap_same hlt1, rfl, hpd1, hsz1, hre1, hps1, hca1, hcb1⟩
                have hch2 : Chg ρ1 s1 w1 ρ1 (setLoop s1 id .busy pend2 nt2 e2 ps2 ca2 cb2) (w1.putObj L.b (.loop { r1 with state := .busy })) :=
                  Chg.change hg1 rfl hL1 putObj_other rfl rfl rfl (by simp)
                have hf2 : Free ρ1 (setLoop s1 id .busy pend2 nt2 e2 ps2 ca2 cb2) s2 := by
                  have := (hf.left (s₁ := s2) (by omega)).right g6
                  exact fun i a b => this i a b
                refine wpIn_mono (hC cb nt e1 _ x e3 s2 h2 ρ1 a1 _ (some L.b) m (.inr hnb) g4 g1 hc2 hf2) ?_
                rintro ex a3 w3 ⟨rfl, k1, ρ3, Ds3, k2, k3, k4, k5, k6⟩
                have hle3 := k6.le hf2
                have hL3 := hle3 _ _ hL1
                obtain ⟨r3, hb3, hst3, hpd3, hsz3, hre3, hps3, hca3, hcb3⟩ := k5.at hg2 hL3
                have hlt3 : L.b < w3.heap.size := (Array.getElem?_eq_some_iff.1 hb3).1
                have hend : ∀ jump : Option Code, (Instr.endRound L.b jump).run P w3 = .ok (.bool jump.isNone) (w3.putObj L.b (.loop { r3 with state := if jump.isNone then .ready else .done, pending := jump })) := fun jump => run_endRound (P := P) jump hb3
                have hfin : ∀ (jump : Option Code), v = .b jump.isNone → s' = setLoop s2 id (if jump.isNone then .ready else .done) jump nt3 e3' ps3 ca3 cb3 →
                    ∃ u w', (Instr.endRound L.b jump).run P w3 = .ok u w' ∧ FPost ρ s w v s' (.returned u) w' := by
                  rintro jump rfl rfl
                  refine ⟨_, _, hend jump, _, ρ3, rfl, by simp [R], ?_, ?_⟩
                  · exact k5.change hg2 rfl hL3 putObj_other ⟨_, World.putObj_heap_same hlt3, rfl, rfl, hsz3, hre3, hps3, hca3, hcb3⟩
                  · exact ((g6.trans hch2).trans k6).trans (Chg.change hg2 rfl hL3 putObj_other rfl rfl rfl (by simp))
                cases x with
                | norm =>
                  simp only [Option.some.injEq, Prod.mk.injEq] at h
                  exact hfin none h.1.symm h.2.symm
                | ret =>
                  simp only [Option.some.injEq, Prod.mk.injEq] at h
                  exact hfin (some .ret) h.1.symm h.2.symm
                | ex j =>
                  simp only [Option.some.injEq, Prod.mk.injEq] at h
                  exact hfin (some (.exit j)) h.1.symm h.2.symm
            · cases h
          · cases h
        · cases h
      · cases h
    · cases h
  · cases h

theorem osound_of (hcx : CxOK P cx) {n : Nat} (hF : FSound P cx n) (hR : RSound P cx n) : OSound P cx (n + 1) := by
  intro o k hk e s v s' h ρ a w r m K Q he hc hf hpost
  simp only [runO] at h
  split at h
  · rename_i c args
    split at h
    · rename_i id vs hyd
      -- a round
      have key : ∃ (d : Deferred) (A : List Value) (L : Loc), (resolve a.eval (match o.op with | .call c => c | _ => default) o.type).run P w = .ok d w ∧ invoke d.target d.args = Instr.yield L.b ⟨A⟩ ∧ ρ id = some L ∧ Rs ρ vs A ∧ ∃ c, o.op = .call c := by
        cases hop : o.op with
        | call cl =>
          obtain ⟨cal, ar, ts⟩ := cl
          simp only [cOp, hop] at hk
          split at hk
          · rename_i f l hl
            simp only [Option.some.injEq, KOp.call.injEq] at hk
            obtain ⟨rfl, rfl⟩ := hk
            simp [yielded?] at hyd
          · rename_i x l hl hnf
            simp only [Option.map_eq_some_iff, KOp.call.injEq] at hk
            obtain ⟨kx, hx, rfl, rfl⟩ := hk
            have rl := Rs_opds he ‹cOs _ = some _›
            have rx := R_opd he hx
            simp only [yielded?] at hyd
            split at hyd
            · rename_i id' hv
              simp only [Option.some.injEq, Prod.mk.injEq] at hyd
              obtain ⟨rfl, rfl⟩ := hyd
              rw [hv] at rx
              simp only [R] at rx
              obtain ⟨L, hL, hxe⟩ := rx
              refine ⟨{ target := .fn (.yield L.b) #[], args := #[] ++ ar.map a.eval }, ar.toList.map a.eval, L, ?_, ?_, hL, rl, _, rfl⟩
              · simp [resolve, hxe, Deferred.ofValue]
              · simp only [invoke]; congr 1; exact Array.ext' (by simp)
            · cases hyd
          · rename_i x mname l hl
            simp only [Option.map_eq_some_iff, KOp.call.injEq] at hk
            obtain ⟨kx, hx, rfl, rfl⟩ := hk
            simp [yielded?] at hyd
          · rename_i b l hl
            exfalso
            split at hk <;> (repeat' split at hk) <;> simp at hk
          · cases hk
        | makeFunc fn x y => cases fn <;> simp only [cOp, hop] at hk <;> (repeat' split at hk) <;> simp at hk
        | makeMap t r => cases r <;> simp [cOp, hop] at hk
        | _ => simp only [cOp, hop] at hk <;> (repeat' split at hk) <;> simp at hk
      obtain ⟨d, A, L, h1, h2, hL, h3, c', hop⟩ := key
      rw [hop] at h1
      obtain ⟨f, tmps, ca, cb, hy, hround⟩ := hR id vs s v s' h ρ w A r (m - 1) L h3 hc hf hL
      refine ⟨fun _ _ => trivial, ?_⟩
      rw [Oper.semAt_eq _ _ _ (cOp_defer hk)]
      have hex : (execOp a.eval o).run P w = .ok (.round L.b f tmps ca cb) w := by
        simp only [execOp, hop, Sem.run_bind]
        simp only at h1
        rw [h1]
        simp only [Result.andThen_ok, h2, hy]
      rw [hex]
      refine ⟨fun h => by simp [WR] at h, ?_⟩
      refine RoundIn.mono hround ?_
      rintro en w' ⟨x, ρ', rfl, hr, hc', hch⟩
      exact hpost x ρ' w' hr hc' hch
    · split at h
      case h_2 => cases h
      rename_i g vs htg
      -- the call
      have key : ∃ (d : Deferred) (A : List Value), (resolve a.eval (match o.op with | .call c => c | _ => default) o.type).run P w = .ok d w ∧ (invoke d.target d.args).run P w = .ok (.enter g ⟨A⟩) w ∧ Rs ρ vs A ∧ ∃ c, o.op = .call c := by
        cases hop : o.op with
        | call cl =>
          obtain ⟨cal, ar, ts⟩ := cl
          simp only [cOp, hop] at hk
          split at hk
          · rename_i f l hl
            simp only [Option.some.injEq, KOp.call.injEq] at hk
            obtain ⟨rfl, rfl⟩ := hk
            simp only [target, Option.some.injEq, Prod.mk.injEq] at htg
            obtain ⟨rfl, rfl⟩ := htg
            have rl := Rs_opds he hl
            refine ⟨{ target := .fn (.func f) #[], args := #[] ++ ar.map a.eval }, ar.toList.map a.eval, ?_, ?_, rl, _, rfl⟩
            · simp [resolve, Act.eval, Deferred.ofValue]
            · simp only [invoke]
              have : (#[] ++ ar.map a.eval ++ #[] : Array Value) = ⟨ar.toList.map a.eval⟩ := Array.ext' (by simp)
              rw [this]; exact enters hcx h _ w
          · rename_i x l hl hnf
            simp only [Option.map_eq_some_iff, KOp.call.injEq] at hk
            obtain ⟨kx, hx, rfl, rfl⟩ := hk
            have rl := Rs_opds he ‹cOs _ = some _›
            have rx := R_opd he hx
            simp only [target] at htg
            split at htg
            · rename_i f b1 b2 hv
              simp only [Option.some.injEq, Prod.mk.injEq] at htg
              obtain ⟨rfl, rfl⟩ := htg
              rw [hv] at rx
              simp only [R] at rx
              obtain ⟨x1, x2, hxe, r1, r2⟩ := rx
              refine ⟨{ target := .fn (.func f) ⟨x2⟩, args := ⟨x1⟩ ++ ar.map a.eval }, x1 ++ ar.toList.map a.eval ++ x2, ?_, ?_, Rs_append (Rs_append r1 rl) r2, _, rfl⟩
              · simp [resolve, hxe, Deferred.ofValue]
              · simp only [invoke]
                have : ((⟨x1⟩ : Array Value) ++ ar.map a.eval ++ ⟨x2⟩ : Array Value) = ⟨x1 ++ ar.toList.map a.eval ++ x2⟩ := Array.ext' (by simp)
                rw [this]; exact enters hcx h _ w
            · cases htg
          · rename_i x mname l hl
            simp only [Option.map_eq_some_iff, KOp.call.injEq] at hk
            obtain ⟨kx, hx, rfl, rfl⟩ := hk
            have rl := Rs_opds he hl
            have rx := R_opd he hx
            simp only [target] at htg
            split at htg
            · rename_i t u hv
              split at htg
              · rename_i f hm
                simp only [Option.some.injEq, Prod.mk.injEq] at htg
                obtain ⟨rfl, rfl⟩ := htg
                rw [hv] at rx
                simp only [R] at rx
                obtain ⟨y, hxe, ry⟩ := rx
                refine ⟨{ target := .fn (.method mname) #[], args := #[.iface t y] ++ ar.map a.eval }, y :: ar.toList.map a.eval, ?_, ?_, by simp only [Rs]; exact ⟨y, _, rfl, ry, rl⟩, _, rfl⟩
                · simp [resolve, hxe]
                · have h0 : (#[Value.iface t y] ++ ar.map a.eval : Array Value)[0]? = some (.iface t y) := by simp [Array.getElem?_append]
                  have h1 : (#[Value.iface t y] ++ ar.map a.eval : Array Value).extract 1 (#[Value.iface t y] ++ ar.map a.eval : Array Value).size = ar.map a.eval := Array.ext' (by simp [List.take_of_length_le])
                  have hmr := method_run (hcx.meth _ _ _ hm) y (P.types.size + 99) w
                  have hd : P.types.size + Made.depth = P.types.size + 99 + 1 := rfl
                  have h2 : (#[y] ++ ar.map a.eval : Array Value) = ⟨y :: ar.toList.map a.eval⟩ := Array.ext' (by simp)
                  simp only [invoke]
                  rw [h0]
                  simp only [h1, callMethod, Sem.run_bind, run_program, Result.andThen_ok, hd, hmr, h2]
                  exact enters hcx h _ w
              · cases htg
            · cases htg
          · rename_i b l hl
            exfalso
            split at hk <;> (repeat' split at hk) <;> simp at hk
          · cases hk
        | makeFunc fn x y => cases fn <;> simp only [cOp, hop] at hk <;> (repeat' split at hk) <;> simp at hk
        | makeMap t r => cases r <;> simp [cOp, hop] at hk
        | _ => simp only [cOp, hop] at hk <;> (repeat' split at hk) <;> simp at hk
      obtain ⟨d, A, h1, h2, h3, c', hop⟩ := key
      rw [hop] at h1
      have hcall := hF g vs s v s' h ρ w A (m - 1) h3 hc hf
      refine ⟨fun _ _ => trivial, ?_⟩
      rw [Oper.semAt_eq _ _ _ (cOp_defer hk)]
      have hex : (execOp a.eval o).run P w = .ok (.enter g ⟨A⟩) w := by
        simp only [execOp, hop, Sem.run_bind]
        simp only at h1
        rw [h1]
        exact h2
      rw [hex]
      refine ⟨fun h => by simp [WR] at h, ?_⟩
      refine CallsIn.mono hcall ?_
      rintro en w' ⟨x, ρ', rfl, hr, hc', hch⟩
      exact hpost x ρ' w' hr hc' hch
  · exact wpIn_good hk (evOp_sound he hc hk h hf) hpost
end
end Go.Av
