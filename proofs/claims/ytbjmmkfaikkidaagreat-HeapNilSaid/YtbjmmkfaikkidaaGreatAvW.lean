/- Regions that draw their order, part 5: whatever the order, it comes to the same. Generic: no program in it. -/
import Derived.Test.YtbjmmkfaikkidaaGreatAvV
set_option linter.constructorNameAsVariable false
set_option linter.unusedVariables false
set_option linter.unusedSimpArgs false
namespace Go.Av
open Go.RowKit

section
variable {P : Program} {cx : Cx} {n : Nat} {ops : Array Oper} {nt : Nat} {ks : List KOper} {E : Nat → Env} {S : Nat → St} {V : Nat → AV} {listed : Array Bool}
variable {ρ0 ρ : Rn} {w0 w : World} {ds : List Deferred} {a : Act} {f : Nat}

theorem step_inv (hcx : CxOK P cx) (hOa : ∀ m, m ≤ n → OSound P cx m) (h : DC P cx n ops nt ks E S V) (I : Inv ops ks E S V nt ρ0 w0 ds listed ρ a w f) {i : Nat} (hr : Rdy ops listed i)
    {r : Option Nat} {m : Nat} {Q : Exit → Act → World → Prop} {K : Act → World → Prop} (hK : ∀ ρ' a' w' f', Inv ops ks E S V nt ρ0 w0 ds (listed.setIfInBounds i true) ρ' a' w' f' → K a' w') : wpOpIn (WR r) m P ops Q i K a w := by
  have hlt := hr.lt
  have hk := h.at hlt
  have hE := I.env
  unfold wpOpIn
  rw [Array.getElem?_eq_getElem hlt]
  simp only
  rw [wanted_iff hE ops nt ops[i], h.sees_guard I.down hr hk]
  have hdd : (cOper P ops nt ops[i]).dst = ops[i].dst := rfl
  rcases h.step i _ hk with ⟨hw, j, hj, hrun⟩ | ⟨hw, hV, hS⟩
  · rw [if_pos hw]
    have hne : (cOper P ops nt ops[i]).op ≠ .bad := fun hb => by rw [hb, runO_bad] at hrun; cases hrun
    obtain ⟨hcop, hdst⟩ := cOper_op (P := P) (ops := ops) (nt := nt) (o := ops[i]) rfl hne
    have hlook := h.sees_ev I.down hr hk
    have hquiet : (cOper P ops nt ops[i]).op.cls ≤ 1 → evOp (edFold listed ks V (E 0) ops.size) (S f) (cOper P ops nt ops[i]).op = some (V i, S f) → ops[i].wpIn (WR r) m P a w K Q := by
      intro hc hev
      refine wpIn_good hcop (evOp_sound hE I.conc hcop hev (fun id x y => by omega)) ?_
      intro x ρ' w' hx hc' hch
      have hρ : ρ' = ρ := by funext id; exact hch.out id (by omega)
      subst hρ
      refine hK _ _ _ f (I.still h hr hk ?_ ?_ hc' hch (hE.putV I.nts hdst hx) (put_size I.nts _ _) ((put_defers _ _).trans I.defs))
      · cases hiw : isWr (cOper P ops nt ops[i]) with
        | false => rfl
        | true => rw [isWr_iff] at hiw; omega
      · rintro ⟨k', hk', hc2, _⟩
        rw [hk] at hk'; cases hk'; omega
    rcases cls_cases (cOper P ops nt ops[i]).op with hc | hc | hc | hc
    · have hev := runO_evOp (by omega) hrun
      refine hquiet (by omega) ?_
      rw [← evOp_congr hlook]
      exact (evOp_T hc hev).2 (S f)
    · obtain ⟨s', hev⟩ := h.reads i _ f hk hc hw (by rw [h.len]; exact I.fle) I.fb
        (fun j q hq hwq hm => (I.wr j q hq hwq).1 (hr.anc I.down j hm))
        (fun j q hq hwq hjf => by
          cases hm : memB i (((ancOf ops.toList)[j]?).getD 0) with
          | false => rfl
          | true =>
            have hLj := (I.wr j q hq hwq).2 hjf
            exact absurd (I.down.anc (h.at' hq).1 hLj i hm) hr.new)
      have := evOp_R hc hev; subst this
      refine hquiet (by omega) ?_
      rw [← evOp_congr hlook]
      exact hev
    · have hev := runO_evOp (by omega) hrun
      obtain ⟨o, hown, hS, h2⟩ := evOp_A hc hev
      obtain ⟨hn0, hmk⟩ := I.make hcx.toOrcNext h hr hk ⟨_, hk, hc, hw⟩ hown hS
      have hev2 := h2 { heap := (S f).heap, next := (S i).next } rfl
      rw [evOp_congr hlook] at hev2
      have hfree : Free ρ { heap := (S f).heap, next := (S i).next } { heap := (S f).heap.set (S i).next o, next := (S i).next + 1 } := by
        intro id x y
        have : id = (S i).next := by simp only at x y; omega
        rw [this]; exact hn0
      refine wpIn_good hcop (evOp_sound (s := { heap := (S f).heap, next := (S i).next }) hE ⟨I.conc.obj, I.conc.inj⟩ hcop hev2 hfree) ?_
      intro x ρ' w' hx hc' hch
      exact hK _ _ _ f (hmk ρ' _ w' hc' hch ((hE.mono (hch.le hfree)).putV I.nts hdst hx) (put_size I.nts _ _) ((put_defers _ _).trans I.defs))
    · obtain ⟨c1, hfree, hwr⟩ := I.write hcx.toOrcNext h hr hk (isWr_iff.2 hc)
      rw [runO_congr hlook] at hrun
      refine hOa j hj _ _ hcop _ _ _ _ hrun ρ a w r m _ Q hE c1 hfree ?_
      intro x ρ' w' hx hc' hch
      exact hK _ _ _ _ (hwr ρ' _ w' hc' hch ((hE.mono (hch.le hfree)).putV I.nts hdst hx) (put_size I.nts _ _) ((put_defers _ _).trans I.defs))
  · rw [if_neg (by simp [hw])]
    refine ⟨fun _ _ => trivial, ?_⟩
    have hput : RE ρ (put (edFold listed ks V (E 0) ops.size) (cOper P ops nt ops[i]).dst (V i)) (a.put ops[i].dst undef) := by
      rw [hV]; exact hE.putU _
    cases hiw : isWr (cOper P ops nt ops[i]) with
    | true =>
      obtain ⟨c1, _, hwr⟩ := I.write hcx.toOrcNext h hr hk hiw
      rw [hS] at hwr
      exact hK _ _ _ _ (hwr ρ _ w c1 (Chg.refl _ _ _) hput (put_size I.nts _ _) ((put_defers _ _).trans I.defs))
    | false =>
      refine hK _ _ _ f (I.still h hr hk hiw ?_ I.conc (Chg.refl _ _ _) hput (put_size I.nts _ _) ((put_defers _ _).trans I.defs))
      rintro ⟨k', hk', _, hw'⟩
      rw [hk] at hk'; cases hk'
      rw [hw] at hw'; cases hw'

theorem all_listed (hedge : edgesOk ops.toList = true) (hs : listed.size = ops.size) (h : Region.ready .any ops listed = []) : ∀ i, i < ops.size → Ld listed i := by
  intro i
  induction i using Nat.strongRecOn with
  | _ i ih =>
    intro hlt
    by_cases hL : Ld listed i
    · exact hL
    · exfalso
      have hmem : i ∈ Region.ready .any ops listed := by
        unfold Region.ready
        rw [List.mem_filter]
        refine ⟨by simpa using hlt, ?_⟩
        simp only [Array.getElem?_eq_getElem hlt, Option.map_some, Option.getD_some, Bool.and_eq_true, Bool.not_eq_true']
        constructor
        · unfold Ld at hL
          rw [Array.getD_eq_getD_getElem?, Array.getElem?_eq_getElem (by omega)] at hL ⊢
          simpa using hL
        · rw [Array.all_eq_true']
          intro e he
          simp only [Bool.or_eq_true, Bool.not_eq_true']
          cases hb : Region.binds .any e with
          | false => exact .inl rfl
          | true =>
            right
            have hp : e.on ∈ predsOf ops[i] := by
              unfold predsOf
              rw [List.mem_filterMap]
              exact ⟨e, by simpa using he, by rw [if_pos hb]⟩
            unfold edgesOk at hedge
            rw [List.all_eq_true] at hedge
            have h1 := hedge i (by simpa using hlt)
            rw [show ops.toList[i]? = some ops[i] from by simp [hlt]] at h1
            simp only [List.all_eq_true, decide_eq_true_eq] at h1
            have h2 := h1 _ hp
            exact ih _ h2 (by omega)
      rw [h] at hmem; cases hmem

theorem any_inv (hcx : CxOK P cx) (hOa : ∀ m, m ≤ n → OSound P cx m) (h : DC P cx n ops nt ks E S V) {r : Option Nat} {m : Nat} {Q : Exit → Act → World → Prop}
    (hQ : ∀ listed ρ a w f, Inv ops ks E S V nt ρ0 w0 ds listed ρ a w f → (∀ i, i < ops.size → Ld listed i) → Q .normal a w) :
    ∀ fuel listed ρ a w f, listed.toList.count false = fuel → Inv ops ks E S V nt ρ0 w0 ds listed ρ a w f → wpAnyIn (WR r) m P .any ops Q fuel listed a w := by
  intro fuel
  induction fuel with
  | zero =>
    intro listed ρ a w f hcnt I
    have hall : ∀ i, i < ops.size → Ld listed i := by
      intro i hi
      have hsz := I.sz
      unfold Ld
      rw [Array.getD_eq_getD_getElem?, Array.getElem?_eq_getElem (by omega)]
      simp only [Option.getD_some]
      cases hv : listed[i]'(by omega) with
      | true => rfl
      | false =>
        exfalso
        have := List.count_eq_zero.1 hcnt
        exact this (by rw [← hv]; simp)
    refine ⟨?_, hQ _ _ _ _ _ I hall⟩
    cases hrd : Region.ready .any ops listed with
    | nil => rfl
    | cons i l =>
      have hr := rdy_of I.sz (i := i) (by rw [hrd]; simp)
      exact absurd (hall i hr.lt) hr.new
  | succ fuel ih =>
    intro listed ρ a w f hcnt I
    refine ⟨fun hnil => hQ _ _ _ _ _ I (all_listed h.edge I.sz hnil), ?_⟩
    intro i hi
    have hr := rdy_of I.sz hi
    refine step_inv hcx hOa h I hr ?_
    intro ρ' a' w' f' I'
    refine ih _ ρ' a' w' f' ?_ I'
    have hlt : i < listed.toList.length := by have := I.sz; have := hr.lt; simp; omega
    have hfalse : listed.toList[i] = false := by
      have := hr.new
      unfold Ld at this
      rw [Array.getD_eq_getD_getElem?, Array.getElem?_eq_getElem (by simpa using hlt)] at this
      simpa using this
    rw [Array.toList_setIfInBounds, List.count_set hlt, hfalse]
    simp
    simp at hcnt
    omega
end

theorem dsound_of {P : Program} {cx : Cx} {n : Nat} (hcx : CxOK P cx) (hOa : ∀ m, m ≤ n → OSound P cx m) : DSound P cx n := by
  intro ops nt kops e s e' s' hcd hrun ρ0 a w0 r m id he hnt hc hf
  obtain ⟨E, S, V, h, rfl, rfl, rfl, rfl⟩ := DC.of hcd hrun
  refine wpIn_region_any hcx.mixed ?_
  have hL0 : ∀ i, ¬ Ld (Array.replicate ops.size false) i := by
    intro i
    unfold Ld
    rw [Array.getD_eq_getD_getElem?, Array.getElem?_replicate]
    split <;> simp
  refine any_inv (ρ0 := ρ0) (w0 := w0) (ds := a.defers) hcx hOa h ?_ _ _ ρ0 a _ 0 ?_ ?_
  · intro listed ρ a' w f I hall
    have hfb : ∀ i k, f ≤ i → i < ops.size → (ops.toList.map (cOper P ops nt))[i]? = some k → isWr k = false := by
      intro i k h1 h2 hk
      cases hw : isWr k with
      | false => rfl
      | true => have := (I.wr i k hk hw).1 (hall i h2); omega
    obtain ⟨c1, c2, c3⟩ := I.disclose h ops.size I.fle (Nat.le_refl _) hfb (fun i _ h2 _ => hall i h2)
    refine ⟨rfl, I.nts, ρ, [], by simpa using I.defs, Mks.nil .., ?_, c1, ?_⟩
    · refine RE_congr (fun t => ed_early h t ops.size (Nat.le_refl _) (fun i k hi _ _ => hall i hi)) I.env
    · refine ⟨I.os, I.tape, I.output, I.size, h.nexts hcx.toOrcNext (Nat.zero_le _) (Nat.le_refl _), I.same, ?_, ?_, I.out⟩
      · intro b hb ho
        rcases c3 b ho with ho | ⟨j, L, j1, j2, j3, j4, j5, j6⟩
        · exact I.own b hb ho
        · obtain ⟨L', o, u1, _, _, _, _, u6⟩ := I.und j j1 j3 j4
          rw [j5] at u1; cases u1; omega
      · intro b hb ho
        rcases c2 b ho with ho | ⟨j, L, j1, j2, j3, j4, j5, j6⟩
        · exact I.live b hb ho
        · obtain ⟨L', o, u1, _, _, _, _, u6⟩ := I.und j j1 j3 j4
          rw [j5] at u1; cases u1; omega
  · simp
  · exact
      { sz := by simp
        down := fun i o _ hL => absurd hL (hL0 i)
        fle := Nat.zero_le _
        fb := .inl rfl
        wr := fun i k _ _ => ⟨fun hL => absurd hL (hL0 i), fun hlt => absurd hlt (Nat.not_lt_zero _)⟩
        conc := hc.heap rfl
        env := by
          refine RE_congr (e := E 0) ?_ he
          intro t
          have : ∀ j, edFold (Array.replicate ops.size false) (ops.toList.map (cOper P ops nt)) V (E 0) j = E 0 := by
            intro j
            induction j with
            | zero => rfl
            | succ j ih =>
              simp only [edFold, ih]
              split
              · rw [if_neg (hL0 j)]
              · rfl
          rw [this]
        und := fun j _ _ hL => absurd hL (hL0 j)
        apart := fun j _ _ _ _ _ _ _ hL => absurd hL (hL0 j)
        free := fun id h1 h2 _ => hf id h1 h2
        nts := hnt
        defs := rfl
        os := rfl
        tape := rfl
        output := rfl
        size := Nat.le_refl _
        same := fun _ _ _ => rfl
        own := fun _ _ ho => ho
        live := fun _ _ ho => ho
        out := fun _ _ => rfl }

theorem fsound {P : Program} {cx : Cx} (hcx : CxOK P cx) (n : Nat) : FSound P cx n ∧ OSound P cx n ∧ OpsSound P cx n ∧ CSound P cx n ∧ DSound P cx n ∧ RSound P cx n := by
  induction n using Nat.strongRecOn with
  | _ n ih =>
    cases n with
    | zero =>
      refine ⟨?_, ?_, ?_, ?_, ?_, ?_⟩
      · intro g vs s v s' h; simp [runF] at h
      · intro o k hk e s v s' h; simp [runO] at h
      · intro ops nt j e s e' s' h; simp [runOps] at h
      · intro c nt e s x e' s' h; simp [runC] at h
      · intro ops nt kops e s e' s' _ h; simp [runDraw] at h
      · intro id vs s v s' h; simp [runR] at h
    | succ n =>
      have hn := ih n (Nat.lt_succ_self n)
      have hO := osound_of hcx hn.1 hn.2.2.2.2.2
      refine ⟨fsound_of hcx hn.2.2.2.1, hO, opsSound_of hcx hn.2.1 hn.2.2.1, csound_of hcx hn.2.2.1 (fun m hm => (ih m (by omega)).2.2.2.1) hn.2.2.2.2.1 hn.1, ?_, rsound_of hcx hn.2.2.2.1⟩
      refine dsound_of hcx fun m hm => ?_
      by_cases e : m = n + 1
      · subst e; exact hO
      · exact (ih m (by omega)).2.1

/-- the one theorem: a run on the abstract heap is a call's true story -/
theorem calls_of {P : Program} {cx : Cx} (hcx : CxOK P cx) {n g : Nat} {vs : List AV} {s : St} {v : AV} {s' : St} (h : runF cx n g vs s = some (v, s')) {ρ : Rn} {w : World} {args : List Value} {m : Nat}
    (hr : Rs ρ vs args) (hc : Conc ρ s w) (hf : Free ρ s s') : CallsIn (WR none) m P g ⟨args⟩ w (FPost ρ s w v s') :=
  (fsound hcx n).1 g vs s v s' h ρ w args m hr hc hf

/-! the whole program, made compact -/
theorem funcsFrom_get {P : Program} : ∀ (l : List Func) (k : Nat) (t : Tr KFunc) (g : Nat) (kf : KFunc), (funcsFrom P l k t).get g = some kf → t.get g = some kf ∨ ∃ fn, k ≤ g ∧ l[g - k]? = some fn ∧ cF P fn = some kf := by
  intro l
  induction l with
  | nil => intro k t g kf h; exact .inl h
  | cons f r ih =>
    intro k t g kf h
    simp only [funcsFrom] at h
    have step : ∀ t', (funcsFrom P r (k + 1) t').get g = some kf → t'.get g = some kf ∨ ∃ fn, k ≤ g ∧ (f :: r)[g - k]? = some fn ∧ cF P fn = some kf := by
      intro t' h'
      rcases ih (k + 1) t' g kf h' with h1 | ⟨fn, h1, h2, h3⟩
      · exact .inl h1
      · refine .inr ⟨fn, by omega, ?_, h3⟩
        rw [show g - k = (g - (k + 1)) + 1 from by omega, List.getElem?_cons_succ]; exact h2
    split at h
    · rename_i kg hkg
      rcases step _ h with h1 | h1
      · rw [Tr.get_set] at h1
        split at h1
        · rename_i he
          cases h1
          exact .inr ⟨f, by omega, by rw [he]; simp, hkg⟩
        · exact .inl h1
      · exact .inr h1
    · exact step _ h
theorem allFuncs_get {P : Program} {g : Nat} {kf : KFunc} (h : (allFuncs P).get g = some kf) : ∃ fn, P.funcs[g]? = some fn ∧ cF P fn = some kf := by
  rcases funcsFrom_get _ _ _ _ _ h with h1 | ⟨fn, _, h2, h3⟩
  · cases h1
  · exact ⟨fn, by simpa using h2, h3⟩
/-- the whole program, and no given contracts -/
def cxOf (P : Program) : Cx := { funcs := allFuncs P, meth := methOf P, orc := fun _ => none, comp := cC P }
theorem cxOf_ok {P : Program} (hm : P.follows .mixedOrders = true) : CxOK P (cxOf P) where
  orc := by intro g F h; cases h
  funcs _ _ h := allFuncs_get h
  meth _ _ _ h := h
  mixed := hm
  comp := rfl
  orcs := by intro g F h; cases h
end Go.Av
