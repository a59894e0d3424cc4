/- Regions that draw their order, part 4: what holds behind any of their operations, in whatever order. Generic: no program in it. -/
import Derived.Test.YtbjmmkfaikkidaaGreatAvS
set_option linter.constructorNameAsVariable false
set_option linter.unusedVariables false
set_option linter.unusedSimpArgs false
namespace Go.Av
open Go.RowKit

def Ld (listed : Array Bool) (i : Nat) : Prop := listed.getD i false = true
instance (listed : Array Bool) (i : Nat) : Decidable (Ld listed i) := inferInstanceAs (Decidable (_ = _))

theorem get_put (e : Env) (d : Option Nat) (v : AV) (t : Nat) : (put e d v).get t = if d = some t then some v else e.get t := by
  cases d with
  | none => simp [put]
  | some d =>
    simp only [put, Tr.get_set, Option.some.injEq]
    by_cases h : t = d
    · subst h; simp
    · rw [if_neg h, if_neg (Ne.symm h)]

/-- what the temporaries hold -/
def edFold (listed : Array Bool) (ks : List KOper) (V : Nat → AV) (e : Env) : Nat → Env
  | 0 => e
  | j + 1 => match ks[j]? with
    | some k => if Ld listed j then put (edFold listed ks V e j) k.dst (V j) else edFold listed ks V e j
    | none => edFold listed ks V e j

theorem RE_congr {ρ : Rn} {e e' : Env} {a : Act} (h : ∀ t, e.get t = e'.get t) (he : RE ρ e a) : RE ρ e' a := by
  intro n
  have := he n
  simpa only [ev, ← h n] using this

section
variable {P : Program} {cx : Cx} {n : Nat} {ops : Array Oper} {nt : Nat} {ks : List KOper} {E : Nat → Env} {S : Nat → St} {V : Nat → AV} {listed : Array Bool}

theorem ed_early (h : DC P cx n ops nt ks E S V) (t : Nat) : ∀ j, j ≤ ops.size → (∀ i k, i < j → ks[i]? = some k → k.dst = some t → Ld listed i) → (edFold listed ks V (E 0) j).get t = (E j).get t := by
  intro j
  induction j with
  | zero => intro _ _; rfl
  | succ j ih =>
    intro hj hl
    have hk := h.at (show j < ops.size by omega)
    have ih' := ih (by omega) (fun i k hi => hl i k (by omega))
    simp only [edFold, hk]
    rw [h.env j _ hk, get_put]
    by_cases hd : (cOper P ops nt ops[j]).dst = some t
    · have := hl j _ (by omega) hk hd
      rw [if_pos this, get_put]
      rw [if_pos hd, if_pos hd]
    · rw [if_neg hd]
      split
      · rw [get_put, if_neg hd]; exact ih'
      · exact ih'
theorem ed_late (t : Nat) {e : Env} {j : Nat} : ∀ m, j ≤ m → (∀ i k, j ≤ i → i < m → ks[i]? = some k → Ld listed i → k.dst ≠ some t) → (edFold listed ks V e m).get t = (edFold listed ks V e j).get t := by
  intro m
  induction m with
  | zero => intro hj _; have : j = 0 := by omega
            subst this; rfl
  | succ m ih =>
    intro hj hl
    by_cases hm : j = m + 1
    · subst hm; rfl
    · have ih' := ih (by omega) (fun i k h1 h2 => hl i k h1 (by omega))
      simp only [edFold]
      split
      · rename_i k hk
        split
        · rename_i hL
          rw [get_put, if_neg (hl m k (by omega) (by omega) hk hL)]; exact ih'
        · exact ih'
      · exact ih'

/-- an operation may be carried out -/
structure Rdy (ops : Array Oper) (listed : Array Bool) (i : Nat) : Prop where
  lt : i < ops.size
  new : ¬ Ld listed i
  preds : ∀ p ∈ predsOf ops[i], Ld listed p
theorem rdy_of {i : Nat} (hs : listed.size = ops.size) (h : i ∈ Region.ready .any ops listed) : Rdy ops listed i := by
  unfold Region.ready at h
  rw [List.mem_filter] at h
  obtain ⟨h1, h2⟩ := h
  have hlt : i < ops.size := by simpa using h1
  simp only [Bool.and_eq_true, Bool.not_eq_true', Array.getElem?_eq_getElem hlt, Option.map_some, Option.getD_some] at h2
  refine ⟨hlt, ?_, ?_⟩
  · unfold Ld
    have := h2.1
    rw [Array.getD_eq_getD_getElem?, Array.getElem?_eq_getElem (by omega)] at this ⊢
    simp only [Option.getD_some] at this ⊢
    simp [this]
  · intro p hp
    unfold predsOf at hp
    rw [List.mem_filterMap] at hp
    obtain ⟨e, he, hpe⟩ := hp
    split at hpe
    · rename_i hb
      simp only [Option.some.injEq] at hpe; subst hpe
      have hall := Array.all_eq_true'.1 h2.2 e (by simpa using he)
      simp only [Bool.or_eq_true, Bool.not_eq_true', hb] at hall
      rcases hall with h | h
      · cases h
      · exact h
    · cases hpe
def Down (ops : Array Oper) (listed : Array Bool) : Prop := ∀ (i : Nat) (o : Oper), ops.toList[i]? = some o → Ld listed i → ∀ p ∈ predsOf o, Ld listed p
theorem Rdy.anc {i : Nat} (hr : Rdy ops listed i) (hd : Down ops listed) : ∀ j, memB j (((ancOf ops.toList)[i]?).getD 0) = true → Ld listed j :=
  anc_closed hd i (ops[i]'hr.lt) (by simp [hr.lt]) hr.preds
theorem Down.anc (hd : Down ops listed) {i : Nat} (hi : i < ops.size) (hL : Ld listed i) : ∀ j, memB j (((ancOf ops.toList)[i]?).getD 0) = true → Ld listed j :=
  anc_closed hd i ops[i] (by simp [hi]) (hd i ops[i] (by simp [hi]) hL)

/-- an operation that may be carried out sees what it would see in the text's order -/
theorem DC.sees (h : DC P cx n ops nt ks E S V) (hd : Down ops listed) {i : Nat} (hr : Rdy ops listed i) {k : KOper} (hk : ks[i]? = some k) {t : Nat} (ht : t ∈ k.tmps) :
    (edFold listed ks V (E 0) ops.size).get t = (E i).get t := by
  rw [ed_late t ops.size (j := i) (by have := hr.lt; omega) ?_]
  · apply ed_early h t i (by have := hr.lt; omega)
    intro j q hj hq hdst
    rcases h.pairs hq hk hj with ha | hp
    · exact hr.anc hd j ha
    · exact absurd ht (pairOk1_left hp hdst).1
  · intro j q h1 h2 hq hL hdst
    by_cases e : j = i
    · subst e; exact hr.new hL
    · rcases h.pairs hk hq (by omega) with ha | hp
      · exact hr.new (hd.anc h2 hL i ha)
      · exact absurd ht (pairOk1_right hp hdst)
theorem DC.sees_ev (h : DC P cx n ops nt ks E S V) (hd : Down ops listed) {i : Nat} (hr : Rdy ops listed i) {k : KOper} (hk : ks[i]? = some k) : ∀ x ∈ k.op.kos, ev (E i) x = ev (edFold listed ks V (E 0) ops.size) x := by
  intro x hx
  cases x with
  | c v => rfl
  | t m =>
    simp only [ev]
    rw [h.sees hd hr hk (t := m) (by
      unfold KOper.tmps
      rw [List.mem_append]
      exact .inl (List.mem_filterMap.2 ⟨_, hx, rfl⟩))]
theorem DC.sees_guard (h : DC P cx n ops nt ks E S V) (hd : Down ops listed) {i : Nat} (hr : Rdy ops listed i) {k : KOper} (hk : ks[i]? = some k) : wanted (edFold listed ks V (E 0) ops.size) k.guard = wanted (E i) k.guard := by
  unfold wanted
  split
  · rfl
  · rfl
  · rename_i t b hg
    rw [h.sees hd hr hk (t := t) (by unfold KOper.tmps; rw [hg]; simp)]
theorem ld_set {i j : Nat} (hs : listed.size = ops.size) (hi : i < ops.size) : Ld (listed.setIfInBounds i true) j ↔ Ld listed j ∨ j = i := by
  unfold Ld
  rw [Array.getD_eq_getD_getElem?, Array.getD_eq_getD_getElem?]
  by_cases e : j = i
  · subst e; simp [Array.getElem?_setIfInBounds, hs, hi]
  · rw [Array.getElem?_setIfInBounds_ne (Ne.symm e)]; simp [e]
/-- and what it leaves is what the temporaries hold then -/
theorem DC.put (h : DC P cx n ops nt ks E S V) (hd : Down ops listed) (hs : listed.size = ops.size) {i : Nat} (hr : Rdy ops listed i) {k : KOper} (hk : ks[i]? = some k) (t : Nat) :
    (Go.Av.put (edFold listed ks V (E 0) ops.size) k.dst (V i)).get t = (edFold (listed.setIfInBounds i true) ks V (E 0) ops.size).get t := by
  have hlt := hr.lt
  -- the folds agree up to i
  have hbelow : ∀ m, m ≤ i → (edFold (listed.setIfInBounds i true) ks V (E 0) m) = edFold listed ks V (E 0) m := by
    intro m
    induction m with
    | zero => intro _; rfl
    | succ m ih =>
      intro hm
      simp only [edFold, ih (by omega)]
      have : Ld (listed.setIfInBounds i true) m ↔ Ld listed m := by rw [ld_set hs hlt]; constructor; (rintro (h | h); exact h; omega); exact .inl
      split
      · split
        · rename_i h1; rw [if_pos (this.1 h1)]
        · rename_i h1; rw [if_neg (fun h2 => h1 (this.2 h2))]
      · rfl
  have hstep : edFold (listed.setIfInBounds i true) ks V (E 0) (i + 1) = Go.Av.put (edFold listed ks V (E 0) i) k.dst (V i) := by
    simp only [edFold, hk, hbelow i (Nat.le_refl _)]
    rw [if_pos ((ld_set hs hlt).2 (.inr rfl))]
  have hsame : edFold listed ks V (E 0) (i + 1) = edFold listed ks V (E 0) i := by
    simp only [edFold, hk]; rw [if_neg hr.new]
  rw [get_put]
  by_cases ht : k.dst = some t
  · rw [if_pos ht]
    rw [ed_late t ops.size (j := i + 1) (by omega) ?_, hstep, get_put, if_pos ht]
    intro j q h1 h2 hq hL hdst
    have hLj : Ld listed j := by
      rcases (ld_set hs hlt).1 hL with h | h
      · exact h
      · omega
    rcases h.pairs hk hq (by omega) with ha | hp
    · exact hr.new (hd.anc h2 hLj i ha)
    · exact (pairOk1_left hp ht).2 hdst
  · rw [if_neg ht]
    -- above i both go alike
    have habove : ∀ m, i + 1 ≤ m → (edFold (listed.setIfInBounds i true) ks V (E 0) m).get t = (edFold listed ks V (E 0) m).get t := by
      intro m
      induction m with
      | zero => intro h; omega
      | succ m ih =>
        intro hm
        by_cases e : m = i
        · subst e; rw [hstep, get_put, if_neg ht, hsame]
        · have ih' := ih (by omega)
          simp only [edFold]
          have : Ld (listed.setIfInBounds i true) m ↔ Ld listed m := by
            rw [ld_set hs hlt]
            exact ⟨fun h => h.resolve_right e, .inl⟩
          split
          · split
            · rename_i h1; rw [if_pos (this.1 h1), get_put, get_put, ih']
            · rename_i h1; rw [if_neg (fun h2 => h1 (this.2 h2))]; exact ih'
          · exact ih'
    exact (habove ops.size (by omega)).symm
theorem Down.set (hd : Down ops listed) (hs : listed.size = ops.size) {i : Nat} (hr : Rdy ops listed i) : Down ops (listed.setIfInBounds i true) := by
  intro j o ho hL p hp
  rw [ld_set hs hr.lt] at hL ⊢
  rcases hL with hL | rfl
  · exact .inl (hd j o ho hL p hp)
  · have : o = ops[j]'hr.lt := by
      have := ho
      simp [hr.lt] at this
      exact this.symm
    subst this
    exact .inl (hr.preds p hp)

/-- what holds when the listed ones have been carried out; f: all writes ahead of it have, none behind it -/
structure Inv (ops : Array Oper) (ks : List KOper) (E : Nat → Env) (S : Nat → St) (V : Nat → AV) (nt : Nat) (ρ0 : Rn) (w0 : World) (ds : List Deferred) (listed : Array Bool) (ρ : Rn) (a : Act) (w : World) (f : Nat) : Prop where
  sz : listed.size = ops.size
  down : Down ops listed
  fle : f ≤ ops.size
  fb : f = 0 ∨ ∃ k, ks[f - 1]? = some k ∧ isWr k = true
  wr : ∀ i k, ks[i]? = some k → isWr k = true → (Ld listed i ↔ i < f)
  conc : Conc ρ (S f) w
  env : RE ρ (edFold listed ks V (E 0) ops.size) a
  und : ∀ j, f ≤ j → Mk ks E j → Ld listed j → ∃ L o, ρ (S j).next = some L ∧ S (j + 1) = { heap := (S j).heap.set (S j).next o, next := (S j).next + 1 } ∧ o.own = true ∧ ObjC ρ w L o ∧ ¬ Live ρ (S f) L.b ∧ w0.heap.size ≤ L.b
  apart : ∀ j j' L L', f ≤ j → f ≤ j' → Mk ks E j → Mk ks E j' → Ld listed j → Ld listed j' → j ≠ j' → ρ (S j).next = some L → ρ (S j').next = some L' → L.b ≠ L'.b
  free : ∀ id, (S f).next ≤ id → id < (S ops.size).next → (∀ j, f ≤ j → Mk ks E j → Ld listed j → id ≠ (S j).next) → ρ id = none
  nts : a.tmps.size = nt
  defs : a.defers = ds
  os : w.os = w0.os
  tape : w.tape = w0.tape
  output : w.output = w0.output
  size : w0.heap.size ≤ w.heap.size
  same : ∀ b, b < w0.heap.size → ¬ Own ρ0 (S 0) b → w.heap[b]? = w0.heap[b]?
  own : ∀ b, b < w0.heap.size → Own ρ (S f) b → Own ρ0 (S 0) b
  live : ∀ b, b < w0.heap.size → Live ρ (S f) b → Live ρ0 (S 0) b
  out : ∀ id, ¬ ((S 0).next ≤ id ∧ id < (S ops.size).next) → ρ id = ρ0 id

variable {ρ0 ρ : Rn} {w0 w : World} {ds : List Deferred} {a : Act} {f : Nat}

/-- what was made early is told, up to where no write stands between -/
theorem Inv.disclose (h : DC P cx n ops nt ks E S V) (I : Inv ops ks E S V nt ρ0 w0 ds listed ρ a w f) : ∀ g, f ≤ g → g ≤ ops.size → (∀ i k, f ≤ i → i < g → ks[i]? = some k → isWr k = false) → (∀ i, f ≤ i → i < g → Mk ks E i → Ld listed i) →
    Conc ρ (S g) w ∧ (∀ b, Live ρ (S g) b → Live ρ (S f) b ∨ ∃ j L, f ≤ j ∧ j < g ∧ Mk ks E j ∧ Ld listed j ∧ ρ (S j).next = some L ∧ L.b = b) ∧
    (∀ b, Own ρ (S g) b → Own ρ (S f) b ∨ ∃ j L, f ≤ j ∧ j < g ∧ Mk ks E j ∧ Ld listed j ∧ ρ (S j).next = some L ∧ L.b = b) := by
  intro g
  induction g with
  | zero =>
    intro h1 _ _ _
    have : f = 0 := by omega
    subst this
    exact ⟨I.conc, fun b hb => .inl hb, fun b hb => .inl hb⟩
  | succ g ih =>
    intro h1 h2 h3 h4
    by_cases e : f = g + 1
    · subst e
      exact ⟨I.conc, fun b hb => .inl hb, fun b hb => .inl hb⟩
    · obtain ⟨c1, c2, c3⟩ := ih (by omega) (by omega) (fun i k a1 a2 => h3 i k a1 (by omega)) (fun i a1 a2 => h4 i a1 (by omega))
      have hk := h.at (show g < ops.size by omega)
      by_cases hm : Mk ks E g
      · have hL := h4 g (by omega) (by omega) hm
        obtain ⟨L, o, u1, u2, u3, u4, u5, u6⟩ := I.und g (by omega) hm hL
        have hne : ¬ Live ρ (S g) L.b := by
          intro hl
          rcases c2 _ hl with hl | ⟨j, L', j1, j2, j3, j4, j5, j6⟩
          · exact u5 hl
          · exact I.apart j g L' L j1 (by omega) j3 hm j4 hL (by omega) j5 u1 j6
        rw [u2]
        refine ⟨⟨?_, ?_⟩, ?_, ?_⟩
        · intro id q hq
          simp only [Tr.get_set] at hq
          split at hq
          · rename_i hid; subst hid; cases hq; exact ⟨L, u1, u4⟩
          · exact c1.obj id q hq
        · intro id id' q q' L1 L2 hq hq' hown hl1 hl2 hb
          simp only [Tr.get_set] at hq hq'
          split at hq
          · rename_i hid
            split at hq'
            · rename_i hid'; rw [hid, hid']
            · subst hid; rw [u1] at hl1; cases hl1
              exact absurd ⟨id', q', L2, hq', hl2, hb.symm⟩ hne
          · split at hq'
            · rename_i hid'; subst hid'; rw [u1] at hl2; cases hl2
              exact absurd ⟨id, q, L1, hq, hl1, hb⟩ hne
            · exact c1.inj id id' q q' L1 L2 hq hq' hown hl1 hl2 hb
        · rintro b ⟨id, q, L1, hq, hl1, hb⟩
          simp only [Tr.get_set] at hq
          split at hq
          · rename_i hid; subst hid; rw [u1] at hl1; cases hl1
            exact .inr ⟨g, L, by omega, by omega, hm, hL, u1, hb⟩
          · rcases c2 b ⟨id, q, L1, hq, hl1, hb⟩ with hl | ⟨j, L', j1, j2, j3⟩
            · exact .inl hl
            · exact .inr ⟨j, L', j1, by omega, j3⟩
        · rintro b ⟨id, q, L1, hq, ho, hl1, hb⟩
          simp only [Tr.get_set] at hq
          split at hq
          · rename_i hid; subst hid; rw [u1] at hl1; cases hl1
            exact .inr ⟨g, L, by omega, by omega, hm, hL, u1, hb⟩
          · rcases c3 b ⟨id, q, L1, hq, ho, hl1, hb⟩ with hl | ⟨j, L', j1, j2, j3⟩
            · exact .inl hl
            · exact .inr ⟨j, L', j1, by omega, j3⟩
      · rw [h.still hk (h3 g _ (by omega) (by omega) hk) hm]
        refine ⟨c1, fun b hb => ?_, fun b hb => ?_⟩
        · rcases c2 b hb with hl | ⟨j, L', j1, j2, j3⟩
          · exact .inl hl
          · exact .inr ⟨j, L', j1, by omega, j3⟩
        · rcases c3 b hb with hl | ⟨j, L', j1, j2, j3⟩
          · exact .inl hl
          · exact .inr ⟨j, L', j1, by omega, j3⟩
end
end Go.Av
