/- Regions that draw their order, part 2: what the run in the text's order tells. Generic: no program in it. -/
import Derived.Test.YtbjmmkfaikkidaaGreatAvQ
set_option linter.constructorNameAsVariable false
set_option linter.unusedVariables false
set_option linter.unusedSimpArgs false
namespace Go.Av
open Go.RowKit

mutual
theorem AV.beq_eq : ∀ (x y : AV), AV.beq x y = true → x = y
  | .b _, y, h => by cases y <;> simp_all [AV.beq]
  | .i j _, y, h => by cases y <;> simp_all [AV.beq]
  | .s _, y, h => by cases y <;> simp_all [AV.beq, eqb]
  | .p0, y, h => by cases y <;> simp_all [AV.beq]
  | .p _ _, y, h => by cases y <;> simp_all [AV.beq]
  | .sl0, y, h => by cases y <;> simp_all [AV.beq]
  | .sl _ _ _ _ _, y, h => by cases y <;> simp_all [AV.beq]
  | .m0, y, h => by cases y <;> simp_all [AV.beq]
  | .m _, y, h => by cases y <;> simp_all [AV.beq]
  | .f0, y, h => by cases y <;> simp_all [AV.beq]
  | .f g a c, y, h => by
    cases y <;> simp only [AV.beq, Bool.and_eq_true, beq_iff_eq, Bool.false_eq_true] at h
    obtain ⟨⟨rfl, h2⟩, h3⟩ := h
    rw [AV.beqs_eq a _ h2, AV.beqs_eq c _ h3]
  | .fm g a c, y, h => by
    cases y <;> simp only [AV.beq, Bool.and_eq_true, beq_iff_eq, Bool.false_eq_true] at h
    obtain ⟨⟨rfl, h2⟩, h3⟩ := h
    rw [AV.beqs_eq a _ h2, AV.beqs_eq c _ h3]
  | .yd _, y, h => by cases y <;> simp_all [AV.beq]
  | .uk _, y, h => by cases y <;> simp_all [AV.beq]
  | .fl j _, y, h => by cases y <;> simp_all [AV.beq]
  | .n0, y, h => by cases y <;> simp_all [AV.beq]
  | .ifc t x, y, h => by
    cases y <;> simp only [AV.beq, Bool.and_eq_true, beq_iff_eq, Bool.false_eq_true] at h
    obtain ⟨rfl, h2⟩ := h
    rw [AV.beq_eq x _ h2]
  | .ag l, y, h => by
    cases y <;> simp only [AV.beq, Bool.false_eq_true] at h
    rw [AV.beqs_eq l _ h]
  | .tu l, y, h => by
    cases y <;> simp only [AV.beq, Bool.false_eq_true] at h
    rw [AV.beqs_eq l _ h]
theorem AV.beqs_eq : ∀ (x y : List AV), AV.beqs x y = true → x = y
  | [], y, h => by cases y <;> simp_all [AV.beqs]
  | a :: r, y, h => by
    cases y <;> simp only [AV.beqs, Bool.and_eq_true, Bool.false_eq_true] at h
    rw [AV.beq_eq a _ h.1, AV.beqs_eq r _ h.2]
end

theorem sameIn_mem {op : KOp} {e : Env} {v : AV} : ∀ {l : List St}, sameIn op e v l = true → ∀ s ∈ l, ∃ s', evOp e s op = some (v, s')
  | [], _, s, hs => by cases hs
  | a :: r, h, s, hs => by
    simp only [sameIn] at h
    split at h
    · rename_i v' s' hv
      simp only [Bool.and_eq_true] at h
      cases hs with
      | head => exact ⟨s', by rw [hv, AV.beq_eq _ _ h.1]⟩
      | tail _ hs => exact sameIn_mem h.2 s hs
    · cases h

/-- the heaps behind the writes -/
def wrs : List KOper → (Nat → St) → List St
  | [], _ => []
  | o :: r, S => match isWr o with
    | true => S 1 :: wrs r (fun i => S (i + 1))
    | false => wrs r (fun i => S (i + 1))

structure Trace (cx : Cx) (n : Nat) (ks : List KOper) (E : Nat → Env) (S : Nat → St) (V : Nat → AV) : Prop where
  step : ∀ j k, ks[j]? = some k → (wanted (E j) k.guard = true ∧ ∃ m, m ≤ n ∧ runO cx m k.op (E j) (S j) = some (V j, S (j + 1))) ∨ (wanted (E j) k.guard = false ∧ V j = .u ∧ S (j + 1) = S j)
  env : ∀ j k, ks[j]? = some k → E (j + 1) = put (E j) k.dst (V j)

theorem checkReads_mem {sg : List St} : ∀ {rd : List Go.Av.Read}, checkReads sg rd = true → ∀ r ∈ rd, sameIn r.op r.e r.v ((sg.drop r.lo).take (r.hi + 1 - r.lo)) = true
  | [], _, r, hr => by cases hr
  | a :: l, h, r, hr => by
    simp only [checkReads, Bool.and_eq_true] at h
    cases hr with
    | head => exact h.1
    | tail _ hr => exact checkReads_mem h.2 r hr

theorem runDraw_trace (cx : Cx) : ∀ (n : Nat) (l : List KOper) (e : Env) (s : St) (sg : List St) (rd : List Go.Av.Read) (e' : Env) (s' : St), runDraw cx n l e s sg rd = some (e', s') →
    ∃ E S V, E 0 = e ∧ S 0 = s ∧ E l.length = e' ∧ S l.length = s' ∧ Trace cx n l E S V ∧
      (∀ r ∈ rd, sameIn r.op r.e r.v (((sg.reverse ++ wrs l S).drop r.lo).take (r.hi + 1 - r.lo)) = true) ∧
      (∀ j k a b, l[j]? = some k → wanted (E j) k.guard = true → k.win = some (a, b) → sameIn k.op (E j) (V j) (((sg.reverse ++ wrs l S).drop a).take (b + 1 - a)) = true) := by
  intro n
  induction n with
  | zero => intro l e s sg rd e' s' h; simp [runDraw] at h
  | succ n ih =>
    intro l e s sg rd e' s' h
    cases l with
    | nil =>
      simp only [runDraw] at h
      split at h
      · rename_i hc
        simp only [Option.some.injEq, Prod.mk.injEq] at h; obtain ⟨rfl, rfl⟩ := h
        refine ⟨fun _ => e, fun _ => s, fun _ => .u, rfl, rfl, rfl, rfl, ⟨by simp, by simp⟩, ?_, by simp⟩
        intro r hr
        simp only [wrs, List.append_nil]
        exact checkReads_mem hc r hr
      · cases h
    | cons o r =>
      simp only [runDraw] at h
      -- a step in general
      have key : ∀ (v : AV) (s1 : St) (rd1 : List Go.Av.Read), ((wanted e o.guard = true ∧ runO cx n o.op e s = some (v, s1)) ∨ (wanted e o.guard = false ∧ v = .u ∧ s1 = s)) →
          (∀ q ∈ rd, q ∈ rd1) → (wanted e o.guard = true → ∀ a b, o.win = some (a, b) → (⟨o.op, e, v, a, b⟩ : Go.Av.Read) ∈ rd1) →
          runDraw cx n r (put e o.dst v) s1 (match isWr o with | true => s1 :: sg | false => sg) rd1 = some (e', s') →
          ∃ E S V, E 0 = e ∧ S 0 = s ∧ E (o :: r).length = e' ∧ S (o :: r).length = s' ∧ Trace cx (n + 1) (o :: r) E S V ∧
            (∀ q ∈ rd, sameIn q.op q.e q.v (((sg.reverse ++ wrs (o :: r) S).drop q.lo).take (q.hi + 1 - q.lo)) = true) ∧
            (∀ j k a b, (o :: r)[j]? = some k → wanted (E j) k.guard = true → k.win = some (a, b) → sameIn k.op (E j) (V j) (((sg.reverse ++ wrs (o :: r) S).drop a).take (b + 1 - a)) = true) := by
        intro v s1 rd1 hst hrd hnew hrun
        obtain ⟨E, S, V, hE, hS, hE', hS', ht, h1, h2⟩ := ih r _ s1 _ rd1 e' s' hrun
        let E2 : Nat → Env := fun j => match j with | 0 => e | j + 1 => E j
        let S2 : Nat → St := fun j => match j with | 0 => s | j + 1 => S j
        let V2 : Nat → AV := fun j => match j with | 0 => v | j + 1 => V j
        have hw : ∀ (z : List St), (match isWr o with | true => s1 :: sg | false => sg).reverse ++ wrs r S = sg.reverse ++ wrs (o :: r) S2 := by
          intro _
          simp only [wrs]
          cases isWr o with
          | true => simp [S2, hS]
          | false => simp [S2]
        refine ⟨E2, S2, V2, rfl, rfl, hE', hS', ⟨?_, ?_⟩, ?_, ?_⟩
        · intro j k hj
          cases j with
          | zero =>
            simp only [List.getElem?_cons_zero, Option.some.injEq] at hj; subst hj
            rcases hst with ⟨w1, w2⟩ | ⟨w1, w2, w3⟩
            · exact .inl ⟨w1, n, by omega, by simp only [S2, V2, E2, hS]; exact w2⟩
            · exact .inr ⟨w1, w2, by simp only [S2, hS]; exact w3⟩
          | succ j =>
            simp only [List.getElem?_cons_succ] at hj
            rcases ht.step j k hj with ⟨w1, m, w2, w3⟩ | w
            · exact .inl ⟨w1, m, by omega, w3⟩
            · exact .inr w
        · intro j k hj
          cases j with
          | zero =>
            simp only [List.getElem?_cons_zero, Option.some.injEq] at hj; subst hj
            simp only [E2, V2, hE]
          | succ j =>
            simp only [List.getElem?_cons_succ] at hj
            exact ht.env j k hj
        · intro q hq
          rw [← hw []]
          exact h1 q (hrd q hq)
        · intro j k a b hj hwn hwin
          rw [← hw []]
          cases j with
          | zero =>
            simp only [List.getElem?_cons_zero, Option.some.injEq] at hj; subst hj
            exact h1 _ (hnew hwn a b hwin)
          | succ j =>
            simp only [List.getElem?_cons_succ] at hj
            exact h2 j k a b hj hwn hwin
      split at h
      · rename_i hw
        split at h
        · rename_i v s1 hv
          refine key v s1 _ (.inl ⟨hw, hv⟩) ?_ ?_ h
          · intro q hq; split
            · exact List.mem_cons_of_mem _ hq
            · exact hq
          · intro _ a b hab; rw [hab]; exact List.mem_cons_self
        · cases h
      · rename_i hw
        exact key .u s rd (.inr ⟨hw, rfl, rfl⟩) (fun _ h => h) (fun h => by rw [hw] at h; cases h) h

theorem stage_at : ∀ (ks : List KOper) (S : Nat → St) (f : Nat), f ≤ ks.length → (f = 0 ∨ ∃ k, ks[f - 1]? = some k ∧ isWr k = true) → (S 0 :: wrs ks S)[(ks.take f).countP isWr]? = some (S f) := by
  intro ks
  induction ks with
  | nil => intro S f hf _; have : f = 0 := by simpa using hf
           subst this; simp
  | cons o r ih =>
    intro S f hf hb
    cases f with
    | zero => simp
    | succ f =>
      simp only [List.take_succ_cons, List.countP_cons, wrs]
      simp only [Nat.add_sub_cancel] at hb
      have hf' : f ≤ r.length := by simpa using hf
      cases f with
      | zero =>
        have hw : isWr o = true := by
          rcases hb with h | ⟨k, hk, hw⟩
          · omega
          · simp at hk; subst hk; exact hw
        simp [hw]
      | succ f =>
        have hb' : f + 1 = 0 ∨ ∃ k, r[f + 1 - 1]? = some k ∧ isWr k = true := by
          rcases hb with h | ⟨k, hk, hw⟩
          · omega
          · exact .inr ⟨k, by simpa using hk, hw⟩
        have := ih (fun i => S (i + 1)) (f + 1) hf' hb'
        cases hw : isWr o with
        | true => simpa [hw] using this
        | false =>
          -- the first write stands behind
          obtain ⟨c, hc⟩ : ∃ c, (r.take (f + 1)).countP isWr = c + 1 := by
            rcases hb' with h | ⟨k, hk, hwk⟩
            · omega
            · have : 0 < (r.take (f + 1)).countP isWr := by
                rw [List.countP_pos_iff]
                refine ⟨k, ?_, hwk⟩
                rw [List.mem_iff_getElem?]
                exact ⟨f, by rw [List.getElem?_take]; simp; simpa using hk⟩
              exact ⟨_, (Nat.sub_add_cancel this).symm⟩
          rw [hc] at this ⊢
          simpa [hw] using this
def wrAt (ks : List KOper) (i : Nat) : Bool := match ks[i]? with | some k => isWr k | none => false
theorem countP_range (ks : List KOper) : ∀ f, f ≤ ks.length → (ks.take f).countP isWr = (List.range f).countP (wrAt ks) := by
  intro f
  induction f with
  | zero => intro _; simp
  | succ f ih =>
    intro hf
    have hlt : f < ks.length := by omega
    rw [List.take_succ_eq_append_getElem hlt, List.countP_append, ih (by omega), List.range_succ, List.countP_append]
    congr 1
    simp [wrAt, List.getElem?_eq_getElem hlt, List.countP_cons]
theorem countP_lt (ks : List KOper) (f : Nat) (hf : f ≤ ks.length) : (List.range f).countP (wrAt ks) = (List.range ks.length).countP (fun i => wrAt ks i && decide (i < f)) := by
  obtain ⟨d, hd⟩ : ∃ d, ks.length = f + d := ⟨ks.length - f, by omega⟩
  rw [hd, List.range_add, List.countP_append]
  have h1 : (List.range f).countP (fun i => wrAt ks i && decide (i < f)) = (List.range f).countP (wrAt ks) := by
    apply List.countP_congr
    intro i hi
    have : i < f := by simpa using hi
    simp [this]
  have h2 : ((List.range d).map (f + ·)).countP (fun i => wrAt ks i && decide (i < f)) = 0 := by
    rw [List.countP_eq_zero]
    intro i hi
    obtain ⟨j, _, rfl⟩ := List.mem_map.1 hi
    simp
  rw [h1, h2]; rfl

/-- a read within its window -/
theorem win_stage {ks : List KOper} {S : Nat → St} {anc : List Nat} {f j : Nat} (hf : f ≤ ks.length) (hb : f = 0 ∨ ∃ k, ks[f - 1]? = some k ∧ isWr k = true)
    (hlo : ∀ i k, ks[i]? = some k → isWr k = true → memB i ((anc[j]?).getD 0) = true → i < f) (hhi : ∀ i k, ks[i]? = some k → isWr k = true → i < f → memB j ((anc[i]?).getD 0) = false) :
    S f ∈ ((S 0 :: wrs ks S).drop (winLo anc ks j)).take (winHi anc ks j + 1 - winLo anc ks j) := by
  have hst := stage_at ks S f hf hb
  rw [countP_range ks f hf, countP_lt ks f hf] at hst
  generalize hc : (List.range ks.length).countP (fun i => wrAt ks i && decide (i < f)) = c at hst
  have h1 : winLo anc ks j ≤ c := by
    rw [← hc, winLo, ← List.countP_eq_length_filter]
    apply List.countP_mono_left
    intro i _ hi
    simp only [Bool.and_eq_true] at hi ⊢
    refine ⟨hi.1, ?_⟩
    cases hk : ks[i]? with
    | none => rw [hk] at hi; simp at hi
    | some k =>
      rw [hk] at hi
      simpa using hlo i k hk hi.1 hi.2
  have h2 : c ≤ winHi anc ks j := by
    rw [← hc, winHi, ← List.countP_eq_length_filter]
    apply List.countP_mono_left
    intro i _ hi
    simp only [Bool.and_eq_true, decide_eq_true_eq] at hi ⊢
    refine ⟨hi.1, ?_⟩
    have hw := hi.1
    simp only [wrAt] at hw
    cases hk : ks[i]? with
    | none => rw [hk] at hw; simp at hw
    | some k =>
      rw [hk] at hw
      simp [hhi i k hk hw hi.2]
  rw [List.mem_iff_getElem?]
  refine ⟨c - winLo anc ks j, ?_⟩
  rw [List.getElem?_take, if_pos (by omega), List.getElem?_drop, show winLo anc ks j + (c - winLo anc ks j) = c from by omega]
  exact hst
end Go.Av
