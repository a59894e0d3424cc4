/- A run on the abstract heap is a true word of the model's runs: code, functions. Generic: no program in it. -/
import Derived.Test.YtbjmmkfaikkidaaGreatAvO
set_option linter.constructorNameAsVariable false
set_option linter.unusedVariables false
set_option linter.unusedSimpArgs false
namespace Go.Av
open Go.RowKit

theorem wpIn_loop_fuel {F : Fence} {n : Nat} {P : Program} {Q : Exit → Act → World → Prop} {c : Code} (I : Nat → Act → World → Prop) (h0 : ∀ a w, ¬ I 0 a w)
    (round : ∀ i a w, I (i + 1) a w → c.wpIn F n P (Exit.then (I i) Q) a w) : ∀ i a w, I i a w → (Code.loop c).wpIn F n P Q a w := by
  intro i a w hI b k cs hro hb hr
  have key : ∀ i a w, I i a w →
      ∃ e a' w', Q e a' w' ∧ ArrivesIn (Machine.fenced P F) P (lone (b.atR a (.code c :: .inLoop c :: k)) cs w) b k cs e a' w' := by
    intro i
    induction i with
    | zero => intro a w h; exact absurd h (h0 a w)
    | succ i ih =>
      intro a w hI
      obtain ⟨e, a₁, w₁, hq, harr⟩ := round i a w hI b (.inLoop c :: k) cs hro hb hr
      cases e with
      | normal =>
        obtain ⟨e₂, a₂, w₂, hq₂, harr₂⟩ := ih a₁ w₁ hq
        exact ⟨e₂, a₂, w₂, hq₂, .of_steps (StepsIn.trans harr (.one (fenced_calm hb hr rfl) stepR_inLoop)) harr₂⟩
      | exit id => exact ⟨_, a₁, w₁, hq, .pass (x := .inLoop c) rfl (fun _ _ => .inl (by simp)) harr⟩
      | goto l => exact ⟨_, a₁, w₁, hq, .pass (x := .inLoop c) rfl (fun _ _ => .inl (by simp)) harr⟩
      | ret => exact ⟨_, a₁, w₁, hq, .pass (x := .inLoop c) rfl (fun _ _ => .inl (by simp)) harr⟩
      | panic ch => exact ⟨_, a₁, w₁, hq, .pass (x := .inLoop c) rfl (fun _ _ => .inl (by simp)) harr⟩
      | outgrown => exact ⟨_, a₁, w₁, hq, .pass (x := .inLoop c) rfl (fun _ _ => .inl (by simp)) harr⟩
  obtain ⟨e, a', w', hq, harr⟩ := key i a w hI
  exact ⟨e, a', w', hq, .of_steps (.one (fenced_calm hb hr rfl) stepR_loop) harr⟩

section
variable {P : Program} {cx : Cx}

theorem RE.putU {ρ : Rn} {e : Env} {a : Act} (he : RE ρ e a) (d : Option Nat) : RE ρ (put e d .u) (a.put d undef) := by
  cases d with
  | none => exact he
  | some d =>
    intro n
    simp only [Go.Av.put, Act.put, ev, Tr.get_set]
    by_cases h : n = d
    · subst h
      simp only [if_true, Option.getD_some]
      rw [Array.getD_eq_getD_getElem?, Array.getElem?_setIfInBounds]
      by_cases hlt : n < a.tmps.size
      · simp [hlt, R_u]
      · simp [hlt, Array.getElem?_eq_none (Nat.le_of_not_lt hlt), R_u]
    · rw [if_neg h, Array.getD_eq_getD_getElem?, Array.getElem?_setIfInBounds_ne (Ne.symm h), ← Array.getD_eq_getD_getElem?]
      exact he n

def OpsSound (P : Program) (cx : Cx) (n : Nat) : Prop :=
  ∀ (ops : Array Oper) nt j e s e' s', runOps cx n ((ops.toList.drop j).map (cOper P ops nt)) e s = some (e', s') → ∀ ρ a w r m Q, RE ρ e a → a.tmps.size = nt → Conc ρ s w → Free ρ s s' →
    (∀ ρ' a' w', RE ρ' e' a' → a'.tmps.size = nt → a'.defers = a.defers → Conc ρ' s' w' → Chg ρ s w ρ' s' w' → Q Exit.normal a' w') → wpOpsIn (WR r) m P ops Q (List.range' j (ops.size - j)) a w
def DSound (P : Program) (cx : Cx) (n : Nat) : Prop :=
  ∀ (ops : Array Oper) nt kops e s e' s', cDraw P nt ops = .region true kops → runDraw cx n kops e s [s] [] = some (e', s') → ∀ ρ a w r m id, RE ρ e a → a.tmps.size = nt → Conc ρ s w → Free ρ s s' →
    (Code.region id ops true).wpIn (WR r) m P (CPost ρ s w nt a.defers .norm e' s') a w

theorem runO_bad (n : Nat) (e : Env) (s : St) : runO cx n .bad e s = none := by
  cases n <;> simp [runO, evOp]

theorem opsSound_of (hcx : CxOK P cx) {n : Nat} (hO : OSound P cx n) (hOps : OpsSound P cx n) : OpsSound P cx (n + 1) := by
  intro ops nt j e s e' s' h ρ a w r m Q he hnt hc hf hQ
  by_cases hj : j < ops.size
  · obtain ⟨d, hd⟩ : ∃ d, ops.size - j = d + 1 := ⟨ops.size - j - 1, by omega⟩
    have hdrop : ops.toList.drop j = ops[j] :: ops.toList.drop (j + 1) := by
      rw [List.drop_eq_getElem_cons (by simpa using hj)]; simp
    rw [hd, List.range'_succ]
    have hd' : d = ops.size - (j + 1) := by omega
    rw [hd']
    simp only [wpOpsIn, Array.getElem?_eq_getElem hj]
    rw [hdrop, List.map_cons] at h
    simp only [runOps] at h
    rw [wanted_iff he ops nt ops[j]]
    split at h
    · rename_i hw
      rw [if_pos hw]
      split at h
      · rename_i v s1 h1
        have hne : (cOper P ops nt ops[j]).op ≠ .bad := fun hb => by rw [hb, runO_bad] at h1; cases h1
        obtain ⟨hk, hdst⟩ := cOper_op (P := P) (ops := ops) (nt := nt) (o := ops[j]) rfl hne
        have hn1 := (run_next hcx.toOrcNext n).2.1 _ _ _ _ _ h1
        have hn2 := (run_next hcx.toOrcNext n).2.2.1 _ _ _ _ _ h
        refine hO _ _ hk _ _ _ _ h1 ρ a w r m _ _ he hc (hf.left hn2) ?_
        intro x ρ' w' hr hc' hch
        have hle := hch.le (hf.left hn2)
        refine hOps ops nt (j + 1) _ s1 e' s' h ρ' _ w' r m Q ((he.mono hle).putV hnt hdst hr) (put_size hnt _ _) hc' (hf.right hch) ?_
        intro ρ2 a2 w2 g1 g2 g3 g4 g5
        exact hQ ρ2 a2 w2 g1 g2 (g3.trans (put_defers _ _)) g4 (hch.trans g5)
      · cases h
    · rename_i hw
      rw [if_neg (by simp [hw])]
      refine ⟨fun _ _ => trivial, ?_⟩
      refine hOps ops nt (j + 1) _ s e' s' h ρ _ w r m Q (he.putU _) (put_size hnt _ _) hc hf ?_
      intro ρ2 a2 w2 g1 g2 g3 g4 g5
      exact hQ ρ2 a2 w2 g1 g2 (g3.trans (put_defers _ _)) g4 g5
  · have hdrop : ops.toList.drop j = [] := List.drop_eq_nil_of_le (by simpa using hj)
    have h0 : ops.size - j = 0 := by omega
    rw [hdrop, List.map_nil] at h
    simp only [runOps, Option.some.injEq, Prod.mk.injEq] at h
    obtain ⟨rfl, rfl⟩ := h
    rw [h0]
    simp only [List.range'_zero, wpOpsIn]
    exact hQ ρ a w he hnt rfl hc (Chg.refl ρ s w)

theorem csound_of (hcx : CxOK P cx) {n : Nat} (hOps : OpsSound P cx n) (hCa : ∀ m, m ≤ n → CSound P cx m) (hD : DSound P cx n) (hF : FSound P cx n) : CSound P cx (n + 1) := by
  have hC := hCa n (Nat.le_refl _)
  intro c nt e s x e' s' h ρ a w r m hrr he hnt hc hf
  cases c with
  | skip =>
    simp only [cC, runC, Option.some.injEq, Prod.mk.injEq] at h
    obtain ⟨rfl, rfl, rfl⟩ := h
    exact wpIn_skip ⟨rfl, hnt, ρ, [], rfl, Mks.nil .., he, hc, Chg.refl ρ s w⟩
  | ret =>
    simp only [cC, runC, Option.some.injEq, Prod.mk.injEq] at h
    obtain ⟨rfl, rfl, rfl⟩ := h
    exact wpIn_ret ⟨rfl, hnt, ρ, [], rfl, Mks.nil .., he, hc, Chg.refl ρ s w⟩
  | exit id =>
    simp only [cC, runC, Option.some.injEq, Prod.mk.injEq] at h
    obtain ⟨rfl, rfl, rfl⟩ := h
    exact wpIn_exit ⟨rfl, hnt, ρ, [], rfl, Mks.nil .., he, hc, Chg.refl ρ s w⟩
  | region id ops draw =>
    cases draw with
    | false =>
      simp only [cC, runC] at h
      split at h
      · rename_i e1 s1 h1
        simp only [Option.some.injEq, Prod.mk.injEq] at h
        obtain ⟨rfl, rfl, rfl⟩ := h
        refine wpIn_region ?_
        have := hOps ops nt 0 e s e1 s1 (by simpa using h1) ρ a w r m (CPost ρ s w nt a.defers .norm e1 s1) he hnt hc hf (fun ρ' a' w' g1 g2 g3 g4 g5 => ⟨rfl, g2, ρ', [], by simpa using g3, Mks.nil .., g1, g4, g5⟩)
        rw [List.range_eq_range']
        simpa using this
      · cases h
    | true =>
      simp only [cC] at h
      cases hd : cDraw P nt ops with
      | region b kops =>
        have hb : b = true := by
          unfold cDraw at hd
          split at hd <;> simp_all
        subst hb
        rw [hd] at h
        simp only [runC] at h
        split at h
        · rename_i e1 s1 h1
          simp only [Option.some.injEq, Prod.mk.injEq] at h
          obtain ⟨rfl, rfl, rfl⟩ := h
          exact hD ops nt kops e s e1 s1 hd h1 ρ a w r m id he hnt hc hf
        · cases h
      | bad => rw [hd] at h; simp [runC] at h
      | _ => unfold cDraw at hd; split at hd <;> simp at hd
  | seq c1 c2 =>
    have hr1 : r = none ∨ noRng c1 = true := hrr.imp id fun hh => by simp only [noRng, Bool.and_eq_true] at hh; exact hh.1
    have hr2 : r = none ∨ noRng c2 = true := hrr.imp id fun hh => by simp only [noRng, Bool.and_eq_true] at hh; exact hh.2
    simp only [cC, runC] at h
    refine wpIn_seq ?_
    split at h
    · rename_i e1 s1 h1
      have hn2 := (run_next hcx.toOrcNext n).1 _ _ _ _ _ _ h
      refine wpIn_mono (hC c1 nt e s .norm e1 s1 h1 ρ a w r m hr1 he hnt hc (hf.left hn2)) ?_
      rintro ex a' w' ⟨rfl, g2, ρ', Ds, g1, gm, g3, g4, g5⟩
      simp only [Ex.out, Exit.then]
      refine wpIn_mono (hC c2 nt e1 s1 x e' s' h ρ' a' w' r m hr2 g3 g2 g4 (hf.right g5)) ?_
      rintro ex a2 w2 ⟨rfl, k2, ρ2, Ds2, k1, km, k3, k4, k5⟩
      exact ⟨rfl, k2, ρ2, Ds2 ++ Ds, by rw [k1, g1]; simp, gm.trans km k5 g5.size, k3, k4, g5.trans k5⟩
    · rename_i hno
      refine wpIn_mono (hC c1 nt e s x e' s' h ρ a w r m hr1 he hnt hc hf) ?_
      rintro ex a' w' ⟨rfl, g⟩
      cases x with
      | norm => exact absurd h (hno e' s')
      | ex id => exact ⟨rfl, g⟩
      | ret => exact ⟨rfl, g⟩
  | cond cc c1 c2 =>
    have hr1 : r = none ∨ noRng c1 = true := hrr.imp id fun hh => by simp only [noRng, Bool.and_eq_true] at hh; exact hh.1
    have hr2 : r = none ∨ noRng c2 = true := hrr.imp id fun hh => by simp only [noRng, Bool.and_eq_true] at hh; exact hh.2
    simp only [cC] at h
    split at h
    · rename_i k hk
      have rk := R_opd he hk
      simp only [runC] at h
      split at h
      · rename_i hv
        rw [hv] at rk
        exact wpIn_cond_true (Rb rk) (hC c1 nt e s x e' s' h ρ a w r m hr1 he hnt hc hf)
      · rename_i hv
        rw [hv] at rk
        exact wpIn_cond_false (Rb rk) (hC c2 nt e s x e' s' h ρ a w r m hr2 he hnt hc hf)
      · cases h
    · simp [runC] at h
  | block id c =>
    have hr1 : r = none ∨ noRng c = true := hrr
    simp only [cC, runC] at h
    refine wpIn_block ?_
    split at h
    · rename_i j e1 s1 h1
      split at h
      · rename_i hj
        simp only [Option.some.injEq, Prod.mk.injEq] at h
        obtain ⟨rfl, rfl, rfl⟩ := h
        refine wpIn_mono (hC c nt e s (.ex j) e1 s1 h1 ρ a w r m hr1 he hnt hc hf) ?_
        rintro ex a' w' ⟨rfl, g⟩
        simp only [Ex.out, Exit.inBlock]
        rw [if_pos hj]
        exact ⟨rfl, g⟩
      · rename_i hj
        simp only [Option.some.injEq, Prod.mk.injEq] at h
        obtain ⟨rfl, rfl, rfl⟩ := h
        refine wpIn_mono (hC c nt e s (.ex j) e1 s1 h1 ρ a w r m hr1 he hnt hc hf) ?_
        rintro ex a' w' ⟨rfl, g⟩
        simp only [Ex.out, Exit.inBlock]
        rw [if_neg hj]
        exact ⟨rfl, g⟩
    · rename_i hno
      refine wpIn_mono (hC c nt e s x e' s' h ρ a w r m hr1 he hnt hc hf) ?_
      rintro ex a' w' ⟨rfl, g⟩
      cases x with
      | norm => exact ⟨rfl, g⟩
      | ex id => exact absurd h (hno id e' s')
      | ret => exact ⟨rfl, g⟩
  | loop c =>
    have hr1 : r = none ∨ noRng c = true := hrr
    simp only [cC] at h
    refine wpIn_loop_fuel (fun i a' w' => i ≤ n + 1 ∧ a'.tmps.size = nt ∧ ∃ e1 s1 ρ1 Ds, a'.defers = Ds.map markD ++ a.defers ∧ Mks w.heap.size ρ1 s1 w' Ds ∧ runC cx i (.loop (cC P nt c)) e1 s1 = some (x, e', s') ∧ RE ρ1 e1 a' ∧ Conc ρ1 s1 w' ∧ Chg ρ s w ρ1 s1 w' ∧ Free ρ1 s1 s')
      ?_ ?_ (n + 1) a w ⟨Nat.le_refl _, hnt, e, s, ρ, [], rfl, Mks.nil .., h, he, hc, Chg.refl ρ s w, hf⟩
    · rintro a' w' ⟨_, _, e1, s1, ρ1, Ds, _, _, h1, _⟩
      simp [runC] at h1
    · rintro i a' w' ⟨hi, g2, e1, s1, ρ1, Ds, g1, gm, h1, g3, g4, g5, g6⟩
      simp only [runC] at h1
      split at h1
      · rename_i e2 s2 h2
        have hn2 := (run_next hcx.toOrcNext i).1 _ _ _ _ _ _ h1
        refine wpIn_mono (hCa i (by omega) c nt e1 s1 .norm e2 s2 h2 ρ1 a' w' r m hr1 g3 g2 g4 (g6.left hn2)) ?_
        rintro ex a2 w2 ⟨rfl, k2, ρ2, Ds2, k1, km, k3, k4, k5⟩
        exact ⟨by omega, k2, e2, s2, ρ2, Ds2 ++ Ds, by rw [k1, g1]; simp, gm.trans km k5 g5.size, h1, k3, k4, g5.trans k5, g6.right k5⟩
      · rename_i hno
        refine wpIn_mono (hCa i (by omega) c nt e1 s1 x e' s' h1 ρ1 a' w' r m hr1 g3 g2 g4 g6) ?_
        rintro ex a2 w2 ⟨rfl, k2, ρ2, Ds2, k1, km, k3, k4, k5⟩
        have fin : CPost ρ s w nt a.defers x e' s' x.out a2 w2 := ⟨rfl, k2, ρ2, Ds2 ++ Ds, by rw [k1, g1]; simp, gm.trans km k5 g5.size, k3, k4, g5.trans k5⟩
        cases x with
        | norm => exact absurd h1 (hno e' s')
        | ex id => exact fin
        | ret => exact fin
  | rangeFunc g ps ca cb =>
    have hr0 : r = none := hrr.resolve_right (by simp [noRng])
    subst hr0
    simp only [cC] at h
    split at h
    · rename_i kg hkg hnr
      have rg := R_opd he hkg
      simp only [runC] at h
      split at h
      · rename_i hh fa fb hv
        split at h
        · rename_i u s1 h1
          have hn1 := (run_next hcx.toOrcNext n).2.2.2.2.1 _ _ _ _ _ h1
          simp only at hn1
          rw [hv] at rg; simp only [R] at rg
          obtain ⟨va, vb, hge, ra, rb⟩ := rg
          have hs1 : s1.next = s'.next := by
            split at h <;> first
              | (cases h; done)
              | (simp only [Option.some.injEq, Prod.mk.injEq] at h; obtain ⟨_, _, rfl⟩ := h; rfl)
          refine wpIn_rangeFunc ?_
          intro fn _
          have hfr : ρ s.next = none := hf s.next (Nat.le_refl _) (by omega)
          -- the record is laid
          have hcD : Conc ρ s (w.alloc (.deferred (some []))) := by
            refine ⟨fun id o ho => ?_, hc.inj⟩
            obtain ⟨L, h1, h2⟩ := hc.obj id o ho
            exact ⟨L, h1, ObjC_same h2 (heap_alloc_old _ _ (ObjC_lt h2))⟩
          have hchD : Chg ρ s w ρ s (w.alloc (.deferred (some []))) :=
            ⟨rfl, rfl, rfl, by simp, Nat.le_refl _, fun b hb _ => heap_alloc_old _ _ hb, fun _ _ hh => hh, fun _ _ hh => hh, fun _ _ => rfl⟩
          let rc : Loop := { state := .ready, pending := none, fn, tmps := a.tmps, params := ps, assign := ca, body := cb, defers := w.heap.size }
          let L : Loc := ⟨w.heap.size + 1, 0, 0, undef⟩
          have hcL := hcD.alloc hfr (.loop rc) L (by simp [L]) (.loop .ready none nt e ps.toList ca cb)
            ⟨rc, by simpa [L] using heap_alloc_new (w.alloc (.deferred (some []))) (.loop rc), rfl, rfl, hnt, he, rfl, rfl, rfl⟩
          have hchL := Chg.alloc hcD (.loop rc) L (by simp [L]) (.loop .ready none nt e ps.toList ca cb)
          have hch1 := hchD.trans hchL
          have hfree1 : Free (upd ρ s.next L) { heap := s.heap.set s.next (.loop .ready none nt e ps.toList ca cb), next := s.next + 1 } s1 := by
            have := (hf.left (s₁ := s1) (by omega)).right hch1
            exact this
          have hL1 : upd ρ s.next L s.next = some L := upd_same _ _ _
          have hle1 : ρ.le (upd ρ s.next L) := hch1.le (hf.left (s₁ := { heap := s.heap.set s.next (.loop .ready none nt e ps.toList ca cb), next := s.next + 1 }) (by simp only; omega))
          have hargs : Rs (upd ρ s.next L) (fa ++ .yd s.next :: fb) (va ++ .func (.yield L.b) #[] #[] :: vb) := by
            refine Rs_append (Rs_mono hle1 _ _ ra) ?_
            simp only [Rs]
            exact ⟨_, _, rfl, by simp only [R]; exact ⟨L, hL1, rfl⟩, Rs_mono hle1 _ _ rb⟩
          have hcall := hF hh _ _ u s1 h1 _ _ _ (m - 1) hargs hcL hfree1
          refine ⟨L.b, [markD w.heap.size], _, { target := .fn (.func hh) ⟨vb⟩, args := ⟨va⟩ ++ #[.func (.yield L.b) #[] #[]] }, (w.alloc (.deferred (some []))).alloc (.loop rc), hh, ⟨va ++ .func (.yield L.b) #[] #[] :: vb⟩, (w.alloc (.deferred (some []))).alloc (.loop rc), run_enterLoop_outer fn a.tmps ps ca cb, ?_, fun _ _ => trivial, ?_, fun hd => by simp [WR] at hd, ?_⟩
          · have hcst : ∀ u : Value, a.eval (.const u) = u := fun _ => rfl
            simp [resolve, rangeCall, hge, Deferred.ofValue, hcst, L]
            rfl
          · simp only [invoke]
            have : ((⟨va⟩ : Array Value) ++ #[Value.func (.yield L.b) #[] #[]] ++ (⟨vb⟩ : Array Value)) = ⟨va ++ Value.func (.yield L.b) #[] #[] :: vb⟩ := Array.ext' (by simp)
            rw [this]; exact enters hcx h1 _ _
          · refine CallsIn.mono hcall ?_
            rintro en w3 ⟨y, ρ2, rfl, hy, hc2, hch2⟩
            have hle2 := hch2.le hfree1
            have hL2 := hle2 _ _ hL1
            have hchA := hch1.trans hch2
            -- its mark
            have hmk : Mks w.heap.size ρ2 s1 w3 [w.heap.size] := by
              have hm1 : Mks w.heap.size (upd ρ s.next L) { heap := s.heap.set s.next (.loop .ready none nt e ps.toList ca cb), next := s.next + 1 } ((w.alloc (.deferred (some []))).alloc (.loop rc)) [w.heap.size] := by
                refine ⟨by simp, ?_⟩
                intro D hD
                simp only [List.mem_singleton] at hD; subst hD
                refine ⟨Nat.le_refl _, ?_, ?_⟩
                · rw [heap_alloc_old _ _ (by simp)]; exact heap_alloc_new w _
                · rintro ⟨id, o, L', hg, hl, hb⟩
                  by_cases hid : id = s.next
                  · subst hid; rw [hL1] at hl; cases hl; simp [L] at hb
                  · simp only [Tr.get_set, if_neg hid] at hg
                    rw [upd_other _ _ hid] at hl
                    obtain ⟨L2, e1, e2⟩ := hc.obj id o hg
                    rw [hl] at e1; cases e1
                    have := ObjC_lt e2; omega
              exact hm1.chg hch2
            have key : ∀ (st : LoopState) (pend : Option Code) (nt2 : Nat) (e2 : Env) (ps2 : List Nat) (ca2 cb2 : Code), s1.heap.get s.next = some (.loop st pend nt2 e2 ps2 ca2 cb2) → st ≠ .busy → s' = setLoop s1 s.next .exhausted pend nt2 e2 ps2 ca2 cb2 →
                ∃ w4, (Instr.endLoop L.b).run P w3 = .ok pend w4 ∧ ∀ x', Ex.out x' = Ex.out x' → CPost ρ s w nt a.defers x' e s' x'.out { a with defers := [markD w.heap.size] ++ a.defers } w4 := by
              rintro st pend nt2 e2 ps2 ca2 cb2 hg hst rfl
              obtain ⟨r3, hb3, hst3, hpd3, hrest⟩ := hc2.at hg hL2
              have hlt3 : L.b < w3.heap.size := (Array.getElem?_eq_some_iff.1 hb3).1
              have hend := run_endLoop (P := P) hb3 (by rw [hst3]; exact hst)
              subst hpd3
              have hch3 : Chg ρ2 s1 w3 ρ2 (setLoop s1 s.next .exhausted r3.pending nt2 e2 ps2 ca2 cb2) (w3.putObj L.b (.loop { r3 with state := .exhausted })) := Chg.change hg rfl hL2 putObj_other rfl rfl rfl (by simp)
              refine ⟨_, hend, fun x' _ => ⟨rfl, hnt, ρ2, [w.heap.size], rfl, hmk.chg hch3, ?_, ?_, hchA.trans hch3⟩⟩
              · have hle := hchA.le (hf.left (by omega))
                exact fun k => R_mono hle _ _ (he k)
              · exact hc2.change hg rfl hL2 putObj_other ⟨_, World.putObj_heap_same hlt3, rfl, rfl, hrest⟩
            simp only [rangePost]
            split at h
            · rename_i nt2 e2 ps2 ca2 cb2 hg
              simp only [Option.some.injEq, Prod.mk.injEq] at h
              obtain ⟨rfl, rfl, rfl⟩ := h
              obtain ⟨w4, h4, h5⟩ := key _ _ _ _ _ _ _ hg (by simp) rfl
              exact ⟨none, w4, h4, h5 .norm rfl⟩
            · rename_i nt2 e2 ps2 ca2 cb2 hg
              simp only [Option.some.injEq, Prod.mk.injEq] at h
              obtain ⟨rfl, rfl, rfl⟩ := h
              obtain ⟨w4, h4, h5⟩ := key _ _ _ _ _ _ _ hg (by simp) rfl
              exact ⟨some .ret, w4, h4, wpIn_ret (h5 .ret rfl)⟩
            · rename_i j nt2 e2 ps2 ca2 cb2 hg
              simp only [Option.some.injEq, Prod.mk.injEq] at h
              obtain ⟨rfl, rfl, rfl⟩ := h
              obtain ⟨w4, h4, h5⟩ := key _ _ _ _ _ _ _ hg (by simp) rfl
              exact ⟨some (.exit j), w4, h4, wpIn_exit (h5 (.ex j) rfl)⟩
            · cases h
        · cases h
      · cases h
    · simp [runC] at h
  | _ => simp [cC, runC] at h

/-! functions -/
def resOne (tmps : Array Value) : ResultVar → Sem Value
  | .tmp t => pure (tmps.getD t undef)
  | .cell q t => do loadVar t (← asAddr (tmps.getD q undef))
theorem results_eq (fn : Func) (tmps : Array Value) : results fn tmps = (do
    let vs ← fn.results.mapM (resOne tmps)
    pure (if h : vs.size = 1 then vs[0] else .tuple vs)) := by
  unfold results
  congr 1
theorem results_sound {ρ : Rn} {s : St} {w : World} {e : Env} {a : Act} (he : RE ρ e a) (hc : Conc ρ s w) : ∀ (rs : List ResultVar) (ks : List KRes), cRes P rs = some ks → ∀ (l : List AV), resultsV e s ks = some l →
    ∃ xs : List Value, (rs.mapM (resOne a.tmps)).run P w = .ok xs w ∧ Rs ρ l xs
  | [], ks, hk, l, h => by
    simp only [cRes, Option.some.injEq] at hk; subst hk
    simp only [resultsV, Option.some.injEq] at h; subst h
    exact ⟨[], rfl, by simp [Rs]⟩
  | .tmp t :: rs, ks, hk, l, h => by
    simp only [cRes] at hk
    split at hk
    · rename_i k' hk'
      simp only [Option.some.injEq] at hk; subst hk
      simp only [resultsV] at h
      split at h
      · rename_i l' hl'
        simp only [Option.some.injEq] at h; subst h
        obtain ⟨xs, h1, h2⟩ := results_sound he hc rs k' hk' l' hl'
        refine ⟨a.tmps.getD t undef :: xs, ?_, by simp only [Rs]; exact ⟨_, _, rfl, he t, h2⟩⟩
        simp only [List.mapM_cons, resOne, Sem.run_bind, Sem.run_pure, Result.andThen_ok, h1]
      · cases h
    · cases hk
  | .cell q t :: rs, ks, hk, l, h => by
    simp only [cRes] at hk
    split at hk
    · rename_i n k' hag hk'
      simp only [Option.some.injEq] at hk; subst hk
      simp only [resultsV] at h
      split at h
      · rename_i id off l' hv hl'
        split at h
        · rename_i cs hcs
          split at h
          · rename_i vs hvs
            simp only [Option.some.injEq] at h; subst h
            obtain ⟨xs, h1, h2⟩ := results_sound he hc rs k' hk' l' hl'
            have hq := he q
            rw [hv] at hq
            simp only [R] at hq
            obtain ⟨L, hL, hq⟩ := hq
            obtain ⟨ys, q1, q2, q3⟩ := csOf_cells hc hcs hL hvs
            have hload := run_loadCells_list (P := P) (w := w) ⟨L.b, L.o + off, none⟩ ys q3
            rw [q1] at hload
            refine ⟨.agg ⟨ys⟩ :: xs, ?_, by simp only [Rs, R]; exact ⟨_, _, rfl, ⟨ys, rfl, q2⟩, h2⟩⟩
            simp [List.mapM_cons, resOne, hq, asAddr, loadVar, run_isAgg hag, run_sizeOf (aggSize_some hag), hload, h1]
          · cases h
        · cases h
      · cases h
    · rename_i k' hag hk'
      simp only [Option.some.injEq] at hk; subst hk
      simp only [resultsV] at h
      split at h
      · rename_i id off l' hv hl'
        split at h
        · rename_i cs hcs
          split at h
          · rename_i v hvv
            simp only [Option.some.injEq] at h; subst h
            obtain ⟨xs, h1, h2⟩ := results_sound he hc rs k' hk' l' hl'
            have hq := he q
            rw [hv] at hq
            simp only [R] at hq
            obtain ⟨L, hL, hq⟩ := hq
            obtain ⟨y, q1, q2⟩ := csOf_cell hc hcs hL hvv
            refine ⟨y :: xs, ?_, by simp only [Rs]; exact ⟨_, _, rfl, q2, h2⟩⟩
            simp [List.mapM_cons, resOne, hq, asAddr, loadVar, run_isAgg hag, q1, h1]
          · cases h
        · cases h
      · cases h
    · cases hk
theorem leaves_marks {F : Fence} {m : Nat} {fn : Func} {tmps : Array Value} {R' : Ending → World → Prop} {ρ ρ' : Rn} {s s' : St} {w : World} : ∀ {Ds : List Nat} {w' : World}, Mks w.heap.size ρ' s' w' Ds → Conc ρ' s' w' → Chg ρ s w ρ' s' w' →
    (∀ w'', Conc ρ' s' w'' → Chg ρ s w ρ' s' w'' → ∃ y, (results fn tmps).run P w'' = .ok y w'' ∧ R' (.returned y) w'') → LeavesInM F m P fn tmps R' (Ds.map markD) .returning w'
  | [], w', hm, hc, hch, h => by
    simp only [List.map_nil, LeavesInM, LeavesIn]
    exact h w' hc hch
  | D :: Ds, w', hm, hc, hch, h => by
    simp only [List.map_cons, LeavesInM]
    obtain ⟨hnd, hm⟩ := hm
    obtain ⟨h1, h2, h3⟩ := hm D (by simp)
    have hD := (Array.getElem?_eq_some_iff.1 h2).1
    have hnd' := List.nodup_cons.1 hnd
    refine ⟨by simp, .inl ⟨D, w'.putObj D (.deferred none), rfl, run_takeDeferred h2, ?_⟩⟩
    refine leaves_marks (ρ := ρ) (ρ' := ρ') (s := s) (s' := s') (w := w) ⟨hnd'.2, fun D' hD' => ?_⟩ ?_ ?_ h
    · obtain ⟨k1, k2, k3⟩ := hm D' (by simp [hD'])
      refine ⟨k1, ?_, k3⟩
      rw [World.putObj_heap_other (by rintro rfl; exact hnd'.1 hD')]; exact k2
    · refine ⟨fun id o ho => ?_, hc.inj⟩
      obtain ⟨L, e1, e2⟩ := hc.obj id o ho
      exact ⟨L, e1, ObjC_same e2 (World.putObj_heap_other (fun hb => h3 ⟨id, o, L, ho, e1, hb⟩))⟩
    · exact ⟨hch.os, hch.tape, hch.output, by simpa using hch.size, hch.next, fun b hb hn => (World.putObj_heap_other (by omega)).trans (hch.same b hb hn), hch.own, hch.live, hch.out⟩

theorem fsound_of (hcx : CxOK P cx) {n : Nat} (hC : CSound P cx n) : FSound P cx (n + 1) := by
  intro g vs s v s' h ρ w args m hr hc hf
  simp only [runF] at h
  split at h
  · rename_i F hF
    exact (hcx.orcs g F hF).2 vs s v s' h ρ w args m hr hc hf
  · split at h
    · cases h
    · rename_i kf hkf
      obtain ⟨fn, h1, h2⟩ := hcx.funcs g kf hkf
      obtain ⟨c, rs', h3, h4, h5, rfl⟩ := cF_spec h2
      simp only at h
      split at h
      · cases h
      · rename_i hble
        have hle : vs.length ≤ fn.ntmps := Nat.le_of_ble_eq_true hble
        have hlen := Rs_length hr
        -- the beginning
        have he0 : RE ρ (Tr.ofList vs) { tmps := (⟨args⟩ : Array Value) ++ Array.replicate (fn.ntmps - args.length) undef, defers := [] } := by
          intro k
          simp only [ev, Tr.get_ofList]
          rw [Array.getD_eq_getD_getElem?]
          by_cases hk : k < vs.length
          · rw [Array.getElem?_append_left (by simpa [hlen] using hk)]
            obtain ⟨y, hy, hry⟩ := Rs_get hr (List.getElem?_eq_getElem hk)
            rw [List.getElem?_eq_getElem hk]
            simpa [hy] using hry
          · rw [List.getElem?_eq_none (Nat.le_of_not_lt hk), Array.getElem?_append_right (by simp [hlen]; omega)]
            simp only [Option.getD_none]
            rw [Array.getElem?_replicate]
            split <;> simp [R_u]
        have hs0 : ((⟨args⟩ : Array Value) ++ Array.replicate (fn.ntmps - args.length) undef).size = fn.ntmps := by simp; omega
        split at h
        · cases h
        · rename_i x e1 s1 hx hrun
          have hnx : s.next ≤ s1.next := (run_next hcx.toOrcNext n).1 _ _ _ _ _ _ hrun
          have hs1 : s1 = s' := by
            split at h <;> simp_all
          subst hs1
          refine callsIn_of_wp_marks h1 h3 trivial ?_
          refine wpIn_mono (hC c fn.ntmps _ s x e1 s1 hrun ρ _ w none m (.inl rfl) he0 (by simpa using hs0) hc hf) ?_
          rintro ex a' w' ⟨rfl, g2, ρ', Ds, g1, gm, g3, g4, g5⟩
          have hend : LeavesInM (WR none) m P fn a'.tmps (FPost ρ s w v s1) a'.defers .returning w' := by
            rw [g1, List.append_nil]
            refine leaves_marks (s' := s1) gm g4 g5 ?_
            clear g4 g5 gm
            intro w' g4 g5
            show ∃ y, (results fn a'.tmps).run P w' = .ok y w' ∧ FPost ρ s w v s1 (.returned y) w'
            cases hrv : resultsV e1 s1 rs' with
            | none => rw [hrv] at h; cases h
            | some l =>
              obtain ⟨xs, q1, q2⟩ := results_sound g3 g4 fn.results.toList rs' h4 l hrv
              have hq : (fn.results.mapM (resOne a'.tmps)).run P w' = .ok xs.toArray w' := by
                rw [Array.mapM_eq_mapM_toList]
                simp only [Sem.run_map, q1, Result.andThen_ok]
              have hres : (results fn a'.tmps).run P w' = .ok (if h : xs.toArray.size = 1 then xs.toArray[0] else .tuple xs.toArray) w' := by
                rw [results_eq]
                simp only [Sem.run_bind, hq, Result.andThen_ok, Sem.run_pure]
              refine ⟨_, hres, ?_⟩
              have hl := Rs_length q2
              rw [hrv] at h
              refine ⟨_, ρ', rfl, ?_, g4, g5⟩
              split at h
              · rename_i y hy
                simp only [Option.some.injEq] at hy; subst hy
                simp only [Option.some.injEq, Prod.mk.injEq] at h; obtain ⟨rfl, _⟩ := h
                simp only [Rs] at q2
                obtain ⟨z, zs, rfl, hz, rfl⟩ := q2
                simpa using hz
              · rename_i l' hno hy
                simp only [Option.some.injEq] at hy; subst hy
                simp only [Option.some.injEq, Prod.mk.injEq] at h; obtain ⟨rfl, _⟩ := h
                have : ¬ xs.toArray.size = 1 := by
                  intro h1
                  simp only [List.size_toArray] at h1
                  rw [hl] at h1
                  obtain ⟨y, hy⟩ := List.length_eq_one_iff.1 h1
                  exact hno y (by rw [hy])
                rw [dif_neg this]
                simp only [R]; exact ⟨xs, rfl, q2⟩
              · rename_i hy; cases hy
          cases x with
          | norm => exact hend
          | ret => exact hend
          | ex id => exact (hx id rfl).elim
        · cases h
end
end Go.Av
