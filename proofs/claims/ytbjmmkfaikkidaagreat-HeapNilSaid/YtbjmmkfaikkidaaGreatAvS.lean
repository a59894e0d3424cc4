/- Regions that draw their order, part 3: what is known of one. Generic: no program in it. -/
import Derived.Test.YtbjmmkfaikkidaaGreatAvR
set_option linter.constructorNameAsVariable false
set_option linter.unusedVariables false
set_option linter.unusedSimpArgs false
namespace Go.Av
open Go.RowKit

/-- a region that draws, and its run in the text's order -/
structure DC (P : Program) (cx : Cx) (n : Nat) (ops : Array Oper) (nt : Nat) (ks : List KOper) (E : Nat → Env) (S : Nat → St) (V : Nat → AV) : Prop where
  hks : ks = ops.toList.map (cOper P ops nt)
  pair : pairOk (ancOf ops.toList) ks = true
  edge : edgesOk ops.toList = true
  step : ∀ j k, ks[j]? = some k → (wanted (E j) k.guard = true ∧ ∃ m, m ≤ n ∧ runO cx m k.op (E j) (S j) = some (V j, S (j + 1))) ∨ (wanted (E j) k.guard = false ∧ V j = .u ∧ S (j + 1) = S j)
  env : ∀ j k, ks[j]? = some k → E (j + 1) = put (E j) k.dst (V j)
  reads : ∀ j k f, ks[j]? = some k → k.op.cls = 1 → wanted (E j) k.guard = true → f ≤ ks.length → (f = 0 ∨ ∃ k, ks[f - 1]? = some k ∧ isWr k = true) →
    (∀ i k, ks[i]? = some k → isWr k = true → memB i (((ancOf ops.toList)[j]?).getD 0) = true → i < f) → (∀ i k, ks[i]? = some k → isWr k = true → i < f → memB j (((ancOf ops.toList)[i]?).getD 0) = false) →
    ∃ s', evOp (E j) (S f) k.op = some (V j, s')

theorem DC.of {P : Program} {cx : Cx} {n nt : Nat} {ops : Array Oper} {kops : List KOper} {e : Env} {s : St} {e' : Env} {s' : St} (hcd : cDraw P nt ops = .region true kops) (h : runDraw cx n kops e s [s] [] = some (e', s')) :
    ∃ E S V, DC P cx n ops nt (ops.toList.map (cOper P ops nt)) E S V ∧ E 0 = e ∧ S 0 = s ∧ E ops.size = e' ∧ S ops.size = s' := by
  unfold cDraw at hcd
  split at hcd
  · rename_i hok
    simp only [Bool.and_eq_true] at hok
    simp only [KCode.region.injEq, true_and] at hcd
    obtain ⟨E, S, V, hE, hS, hE', hS', ht, _, hr⟩ := runDraw_trace cx n kops e s [s] [] e' s' h
    have hlen : kops.length = ops.size := by rw [← hcd]; simp [withWins]
    have hget : ∀ j k, (ops.toList.map (cOper P ops nt))[j]? = some k → kops[j]? = some (withWin (ancOf ops.toList) (ops.toList.map (cOper P ops nt)) j k) := by
      intro j k hj
      rw [← hcd]
      simp only [withWins, List.getElem?_map, List.getElem?_zipIdx, Option.map_map] at hj ⊢
      cases ho : ops.toList[j]? with
      | none => rw [ho] at hj; simp at hj
      | some o => rw [ho] at hj; simp at hj ⊢; rw [hj]
    have hsame : ∀ anc ks j (k : KOper), (withWin anc ks j k).op = k.op ∧ (withWin anc ks j k).dst = k.dst ∧ (withWin anc ks j k).guard = k.guard := by
      intro anc ks j k
      unfold withWin
      split <;> exact ⟨rfl, rfl, rfl⟩
    refine ⟨E, S, V, ⟨rfl, hok.1, hok.2, ?_, ?_, ?_⟩, hE, hS, by rw [← hlen]; exact hE', by rw [← hlen]; exact hS'⟩
    · intro j k hj
      have := ht.step j _ (hget j k hj)
      rwa [(hsame _ _ _ _).1, (hsame _ _ _ _).2.2] at this
    · intro j k hj
      have := ht.env j _ (hget j k hj)
      rwa [(hsame _ _ _ _).2.1] at this
    · intro j k f hj hcl hw hf hb hlo hhi
      have hk := hget j k hj
      have hwin : (withWin (ancOf ops.toList) (ops.toList.map (cOper P ops nt)) j k).win = some (winLo (ancOf ops.toList) (ops.toList.map (cOper P ops nt)) j, winHi (ancOf ops.toList) (ops.toList.map (cOper P ops nt)) j) := by
        unfold withWin; simp only [hcl]
      have hrd := hr j _ _ _ hk (by rw [(hsame _ _ _ _).2.2]; exact hw) hwin
      rw [(hsame _ _ _ _).1] at hrd
      have hst := win_stage (S := S) hf hb hlo hhi
      have hwr : wrs kops S = wrs (ops.toList.map (cOper P ops nt)) S := by
        have gen : ∀ (l : List KOper) (i : Nat) (anc : List Nat) (ks : List KOper) (S : Nat → St), wrs ((l.zipIdx i).map fun (k, j) => withWin anc ks j k) S = wrs l S := by
          intro l
          induction l with
          | nil => intro i anc ks S; rfl
          | cons o r ih =>
            intro i anc ks S
            simp only [List.zipIdx_cons, List.map_cons, wrs, ih]
            have : isWr (withWin anc ks i o) = isWr o := by unfold isWr; rw [(hsame _ _ _ _).1]
            rw [this]
        rw [← hcd]
        exact gen _ 0 _ _ S
      rw [hwr] at hrd
      simp only [List.reverse_cons, List.reverse_nil, List.nil_append] at hrd
      have : [s] ++ wrs (ops.toList.map (cOper P ops nt)) S = S 0 :: wrs (ops.toList.map (cOper P ops nt)) S := by rw [hS]; rfl
      rw [this] at hrd
      exact sameIn_mem hrd _ hst
  · cases hcd

section
variable {P : Program} {cx : Cx} {n : Nat} {ops : Array Oper} {nt : Nat} {ks : List KOper} {E : Nat → Env} {S : Nat → St} {V : Nat → AV}

theorem DC.len (h : DC P cx n ops nt ks E S V) : ks.length = ops.size := by rw [h.hks]; simp
theorem DC.at (h : DC P cx n ops nt ks E S V) {j : Nat} (hj : j < ops.size) : ks[j]? = some (cOper P ops nt ops[j]) := by
  rw [h.hks]; simp [hj]
theorem DC.at' (h : DC P cx n ops nt ks E S V) {j : Nat} {k : KOper} (hk : ks[j]? = some k) : ∃ hj : j < ops.size, k = cOper P ops nt ops[j] := by
  have hj : j < ops.size := by rw [← h.len]; exact (List.getElem?_eq_some_iff.1 hk).1
  exact ⟨hj, by rw [h.at hj] at hk; exact (Option.some.inj hk).symm⟩

theorem mem_iff {i : Nat} {l : List Nat} : mem i l = true ↔ i ∈ l := by
  simp [mem]

/-- what two operations are, the one not ahead of the other -/
theorem DC.pairs (h : DC P cx n ops nt ks E S V) {i j : Nat} {a b : KOper} (hi : ks[i]? = some a) (hj : ks[j]? = some b) (hij : i < j) : memB i (((ancOf ops.toList)[j]?).getD 0) = true ∨ pairOk1 a b = true := by
  have hp := h.pair
  unfold pairOk at hp
  rw [List.all_eq_true] at hp
  have h1 := hp j (by rw [List.mem_range]; exact (List.getElem?_eq_some_iff.1 hj).1)
  rw [List.all_eq_true] at h1
  have h2 := h1 i (by rw [List.mem_range]; exact hij)
  rw [hi, hj] at h2
  simp only [Bool.or_eq_true] at h2
  exact h2
theorem pairOk1_wr {a b : KOper} (h : pairOk1 a b = true) (ha : isWr a = true) (hb : isWr b = true) : False := by
  simp [pairOk1, ha, hb] at h
theorem pairOk1_mk {a b : KOper} (h : pairOk1 a b = true) (ha : isMk a = true) (hb : isWr b = true) : False := by
  simp [pairOk1, ha, hb] at h
theorem pairOk1_left {a b : KOper} (h : pairOk1 a b = true) {d : Nat} (hd : a.dst = some d) : d ∉ b.tmps ∧ b.dst ≠ some d := by
  simp only [pairOk1, hd, Bool.and_eq_true, Bool.not_eq_true'] at h
  refine ⟨fun hm => ?_, fun hb => ?_⟩
  · have := mem_iff.2 hm
    rw [this] at h; simp at h
  · rw [hb] at h; simp at h
theorem pairOk1_right {a b : KOper} (h : pairOk1 a b = true) {d : Nat} (hd : b.dst = some d) : d ∉ a.tmps := by
  simp only [pairOk1, hd, Bool.and_eq_true, Bool.not_eq_true'] at h
  intro hm
  have := mem_iff.2 hm
  rw [this] at h; simp at h

/-! what must be ahead -/
theorem memB_iff {i m : Nat} : memB i m = true ↔ m.testBit i = true := by
  unfold memB
  rw [Nat.testBit_eq_decide_div_mod_eq]
  have h1 : Nat.land (Nat.shiftRight m i) 1 = m / 2 ^ i % 2 := by
    show (m >>> i) &&& 1 = _
    rw [Nat.and_one_is_mod, Nat.shiftRight_eq_div_pow]
  rw [h1]
  constructor
  · intro h; simpa using Nat.eq_of_beq_eq_true h
  · intro h; rw [of_decide_eq_true h]; rfl
theorem ancMask_bit (acc : List Nat) (i : Nat) : ∀ (l : List Nat) (m : Nat), (l.foldl (fun m j => Nat.lor (Nat.lor m ((acc[j]?).getD 0)) (Nat.pow 2 j)) m).testBit i = true → m.testBit i = true ∨ ∃ p ∈ l, i = p ∨ ((acc[p]?).getD 0).testBit i = true
  | [], m, h => .inl h
  | p :: l, m, h => by
    rw [List.foldl_cons] at h
    rcases ancMask_bit acc i l _ h with h1 | ⟨q, hq, h1⟩
    · have e : Nat.lor (Nat.lor m ((acc[p]?).getD 0)) (Nat.pow 2 p) = (m ||| ((acc[p]?).getD 0)) ||| 2 ^ p := rfl
      rw [e, Nat.testBit_or, Nat.testBit_or, Bool.or_eq_true, Bool.or_eq_true] at h1
      rcases h1 with (h1 | h1) | h1
      · exact .inl h1
      · exact .inr ⟨p, by simp, .inr h1⟩
      · rw [Nat.testBit_two_pow] at h1
        exact .inr ⟨p, by simp, .inl (of_decide_eq_true h1).symm⟩
    · exact .inr ⟨q, by simp [hq], h1⟩
theorem ancFold_length : ∀ (l : List Oper) (acc : List Nat), (l.foldl ancStep acc).length = acc.length + l.length := by
  intro l
  induction l with
  | nil => intro acc; simp
  | cons o r ih => intro acc; simp only [List.foldl_cons, ih, List.length_cons]; simp [ancStep]; omega
theorem ancFold_get : ∀ (l : List Oper) (acc : List Nat) (j : Nat), j < acc.length → (l.foldl ancStep acc)[j]? = acc[j]? := by
  intro l
  induction l with
  | nil => intro acc j _; rfl
  | cons o r ih =>
    intro acc j hj
    simp only [List.foldl_cons]
    rw [ih _ _ (by simp [ancStep]; omega)]
    simp [ancStep, List.getElem?_append_left hj]
theorem ancFold_at : ∀ (l : List Oper) (acc : List Nat) (j : Nat) (o : Oper), l[j]? = some o →
    (l.foldl ancStep acc)[acc.length + j]? = some (ancMask ((l.foldl ancStep acc).take (acc.length + j)) (predsOf o)) := by
  intro l
  induction l with
  | nil => intro acc j o h; simp at h
  | cons q r ih =>
    intro acc j o h
    simp only [List.foldl_cons]
    cases j with
    | zero =>
      simp only [List.getElem?_cons_zero, Option.some.injEq] at h; subst h
      rw [ancFold_get _ _ _ (by simp [ancStep])]
      simp only [ancStep, Nat.add_zero, List.getElem?_concat_length, Option.some.injEq]
      congr 1
      apply List.ext_getElem?
      intro p
      rw [List.getElem?_take]
      by_cases hp : p < acc.length
      · rw [if_pos hp]
        have := ancFold_get r (acc ++ [ancMask acc (predsOf q)]) p (by simp; omega)
        rw [this, List.getElem?_append_left hp]
      · rw [if_neg hp, List.getElem?_eq_none (Nat.le_of_not_lt hp)]
    | succ j =>
      simp only [List.getElem?_cons_succ] at h
      have := ih (ancStep acc q) j o h
      have hl : (ancStep acc q).length = acc.length + 1 := by simp [ancStep]
      rw [hl] at this
      rw [show acc.length + (j + 1) = acc.length + 1 + j from by omega]
      exact this
/-- what is carried out has all carried out that must be ahead -/
theorem anc_closed {l : List Oper} {L : Nat → Prop} (hd : ∀ (i : Nat) (o : Oper), l[i]? = some o → L i → ∀ p ∈ predsOf o, L p) : ∀ (j : Nat) (o : Oper), l[j]? = some o → (∀ p ∈ predsOf o, L p) → ∀ i, memB i (((ancOf l)[j]?).getD 0) = true → L i := by
  intro j
  induction j using Nat.strongRecOn with
  | _ j ih =>
    intro o ho hp i hi
    have := ancFold_at l [] j o ho
    simp only [List.length_nil, Nat.zero_add] at this
    rw [show ancOf l = l.foldl ancStep [] from rfl, this] at hi
    simp only [Option.getD_some] at hi
    rw [memB_iff] at hi
    rcases ancMask_bit _ i _ _ hi with h0 | ⟨p, hpm, rfl | h1⟩
    · simp at h0
    · exact hp i hpm
    · rw [List.getElem?_take] at h1
      split at h1
      · rename_i hlt
        have hLp := hp p hpm
        cases hq : l[p]? with
        | none =>
          have hlen := ancFold_length l []
          have : (l.foldl ancStep [])[p]? = none := by
            rw [List.getElem?_eq_none]
            rw [hlen]; simpa using List.getElem?_eq_none_iff.1 hq
          rw [this] at h1; simp at h1
        | some q => exact ih p hlt q hq (hd p q hq hLp) i (memB_iff.2 h1)
      · simp at h1

/-! the classes -/
theorem isWr_iff {k : KOper} : isWr k = true ↔ k.op.cls = 3 := by
  unfold isWr
  split
  · rename_i h; simp [h]
  · rename_i h; simp; exact h
theorem isMk_iff {k : KOper} : isMk k = true ↔ k.op.cls = 2 := by
  unfold isMk
  split
  · rename_i h; simp [h]
  · rename_i h; simp; exact h
theorem cls_cases (k : KOp) : k.cls = 0 ∨ k.cls = 1 ∨ k.cls = 2 ∨ k.cls = 3 := by
  cases k <;> simp [KOp.cls]
theorem runO_evOp {m : Nat} {k : KOp} (hk : k.cls ≠ 3) {e : Env} {s : St} {r : AV × St} (h : runO cx m k e s = some r) : evOp e s k = some r := by
  cases m with
  | zero => simp [runO] at h
  | succ m =>
    cases k with
    | call c l => simp [KOp.cls] at hk
    | _ => simpa [runO] using h
/-- it makes memory, and is carried out -/
def Mk (ks : List KOper) (E : Nat → Env) (j : Nat) : Prop := ∃ k, ks[j]? = some k ∧ k.op.cls = 2 ∧ wanted (E j) k.guard = true
theorem DC.made (h : DC P cx n ops nt ks E S V) {j : Nat} (hj : Mk ks E j) : ∃ o, o.own = true ∧ S (j + 1) = { heap := (S j).heap.set (S j).next o, next := (S j).next + 1 } := by
  obtain ⟨k, hk, hcl, hw⟩ := hj
  rcases h.step j k hk with ⟨_, m, _, hr⟩ | ⟨hw', _⟩
  · obtain ⟨o, h1, h2, _⟩ := evOp_A hcl (runO_evOp (by omega) hr)
    exact ⟨o, h1, h2⟩
  · rw [hw] at hw'; cases hw'
theorem DC.still (h : DC P cx n ops nt ks E S V) {j : Nat} {k : KOper} (hk : ks[j]? = some k) (h3 : isWr k = false) (hm : ¬ Mk ks E j) : S (j + 1) = S j := by
  rcases h.step j k hk with ⟨hw, m, _, hr⟩ | ⟨_, _, hs⟩
  · have hc3 : k.op.cls ≠ 3 := fun e => by rw [isWr_iff.2 e] at h3; cases h3
    rcases cls_cases k.op with hc | hc | hc | hc
    · exact (evOp_T hc (runO_evOp hc3 hr)).1
    · exact evOp_R hc (runO_evOp hc3 hr)
    · exact absurd ⟨k, hk, hc, hw⟩ hm
    · exact absurd hc hc3
  · exact hs
theorem DC.next1 (ho : OrcNext cx) (h : DC P cx n ops nt ks E S V) {j : Nat} (hj : j < ops.size) : (S j).next ≤ (S (j + 1)).next := by
  rcases h.step j _ (h.at hj) with ⟨_, m, _, hr⟩ | ⟨_, _, hs⟩
  · exact (run_next ho m).2.1 _ _ _ _ _ hr
  · rw [hs]; exact Nat.le_refl _
theorem DC.nexts (ho : OrcNext cx) (h : DC P cx n ops nt ks E S V) {i j : Nat} (hij : i ≤ j) (hj : j ≤ ops.size) : (S i).next ≤ (S j).next := by
  induction j with
  | zero => have : i = 0 := by omega
            subst this; exact Nat.le_refl _
  | succ j ih =>
    by_cases e : i = j + 1
    · subst e; exact Nat.le_refl _
    · exact Nat.le_trans (ih (by omega) (by omega)) (h.next1 ho (by omega))
end
end Go.Av
