/- The operations of the abstract run are true words of the model's, part 1. Generic: no program in it. -/
import Derived.Test.YtbjmmkfaikkidaaGreatAvC
import Derived.Deep.AppendSrc
set_option linter.constructorNameAsVariable false
set_option linter.unusedVariables false
namespace Go.Av
open Go.RowKit

def RE (ρ : Rn) (e : Env) (a : Act) : Prop := ∀ n, R ρ (ev e (.t n)) (a.tmps.getD n undef)
theorem RE.mono {ρ ρ' : Rn} {e : Env} {a : Act} (h : RE ρ e a) (hl : ρ.le ρ') : RE ρ' e a := fun n => R_mono hl _ _ (h n)

/-! closed values -/
mutual
theorem R_ofValue (ρ : Rn) : ∀ (v : Value) (a : AV), ofValue v = some a → R ρ a v
  | .bool x, a, h => by simp only [ofValue, Option.some.injEq] at h; subst h; simp [R]
  | .int k n, a, h => by simp only [ofValue, Option.some.injEq] at h; subst h; simp [R]
  | .float k n, a, h => by simp only [ofValue, Option.some.injEq] at h; subst h; simp [R]
  | .complex k n m, a, h => by simp [ofValue] at h
  | .string ⟨⟨l⟩⟩, a, h => by simp only [ofValue, Option.some.injEq] at h; subst h; simp [R]
  | .pointer none, a, h => by simp only [ofValue, Option.some.injEq] at h; subst h; simp [R]
  | .pointer (some p), a, h => by simp [ofValue] at h
  | .slice none 0 0, a, h => by simp only [ofValue, Option.some.injEq] at h; subst h; simp [R]
  | .slice none 0 (n + 1), a, h => by simp [ofValue] at h
  | .slice none (n + 1) m, a, h => by simp [ofValue] at h
  | .slice (some p) n m, a, h => by simp [ofValue] at h
  | .map none, a, h => by simp only [ofValue, Option.some.injEq] at h; subst h; simp [R]
  | .map (some p), a, h => by simp [ofValue] at h
  | .chan c, a, h => by simp [ofValue] at h
  | .func (.func g) ⟨x⟩ ⟨y⟩, a, h => by
    simp only [ofValue] at h
    split at h
    · rename_i x' y' hx hy
      simp only [Option.some.injEq] at h; subst h
      simp only [R]; exact ⟨x, y, rfl, Rs_ofValues ρ x x' hx, Rs_ofValues ρ y y' hy⟩
    · cases h
  | .func (.method n) x y, a, h => by simp [ofValue] at h
  | .func (.methodOf t n) x y, a, h => by simp [ofValue] at h
  | .func (.via t p f b) x y, a, h => by simp [ofValue] at h
  | .func (.yield l) x y, a, h => by simp [ofValue] at h
  | .nilFunc, a, h => by simp only [ofValue, Option.some.injEq] at h; subst h; simp [R]
  | .iface t v, a, h => by simp [ofValue] at h
  | .nilIface, a, h => by simp only [ofValue, Option.some.injEq] at h; subst h; simp [R]
  | .agg ⟨l⟩, a, h => by
    simp only [ofValue] at h
    split at h
    · rename_i x hx
      simp only [Option.some.injEq] at h; subst h
      simp only [R]; exact ⟨l, rfl, Rs_ofValues ρ l x hx⟩
    · cases h
  | .tuple ⟨l⟩, a, h => by
    simp only [ofValue] at h
    split at h
    · rename_i x hx
      simp only [Option.some.injEq] at h; subst h
      simp only [R]; exact ⟨l, rfl, Rs_ofValues ρ l x hx⟩
    · cases h
theorem Rs_ofValues (ρ : Rn) : ∀ (v : List Value) (a : List AV), ofValues v = some a → Rs ρ a v
  | [], a, h => by simp only [ofValues, Option.some.injEq] at h; subst h; simp [Rs]
  | v :: r, a, h => by
    simp only [ofValues] at h
    split at h
    · rename_i x y hx hy
      simp only [Option.some.injEq] at h; subst h
      simp only [Rs]; exact ⟨v, r, rfl, R_ofValue ρ v x hx, Rs_ofValues ρ r y hy⟩
    · cases h
end

section
variable {ρ : Rn} {e : Env} {a : Act}
theorem R_opd (he : RE ρ e a) {x : Operand} {k : KO} (h : cO x = some k) : R ρ (ev e k) (a.eval x) := by
  cases x with
  | tmp t => simp only [cO, Option.some.injEq] at h; subst h; exact he t
  | const v =>
    simp only [cO] at h
    split at h
    · rename_i y hy
      simp only [Option.some.injEq] at h; subst h
      exact R_ofValue ρ v y hy
    · cases h
  | func f => simp only [cO, Option.some.injEq] at h; subst h; simp [ev, Act.eval, R, Rs]
  | global g => simp [cO] at h
theorem Rs_opds (he : RE ρ e a) : ∀ {l : List Operand} {ks : List KO}, cOs l = some ks → Rs ρ (evs e ks) (l.map a.eval)
  | [], ks, h => by simp only [cOs, Option.some.injEq] at h; subst h; simp [evs, Rs]
  | x :: r, ks, h => by
    simp only [cOs] at h
    split at h
    · rename_i k l hk hl
      simp only [Option.some.injEq] at h; subst h
      simp only [evs, List.map_cons, Rs]; exact ⟨_, _, rfl, R_opd he hk, Rs_opds he hl⟩
    · cases h
end

/-- one operation: run, and what it gives is as said -/
def Good (P : Program) (sm : Sem Next) (ρ : Rn) (s : St) (w : World) (v : AV) (s' : St) : Prop :=
  ∃ x ρ' w' nx, sm.run P w = .ok nx w' ∧ (nx = .value x ∨ (nx = .skip ∧ x = undef)) ∧ R ρ' v x ∧ Conc ρ' s' w' ∧ Chg ρ s w ρ' s' w'

section
variable {P : Program} {sm : Sem Next} {ρ : Rn} {s : St} {w : World} {v : AV}
theorem Good.pure (hc : Conc ρ s w) {x : Value} (hr : R ρ v x) (h : sm.run P w = .ok (.value x) w) : Good P sm ρ s w v s :=
  ⟨x, ρ, w, .value x, h, .inl rfl, hr, hc, Chg.refl ρ s w⟩
end

/-! ### the heap -/
def upd (ρ : Rn) (id : Nat) (L : Loc) : Rn := fun j => if j = id then some L else ρ j
theorem upd_same (ρ : Rn) (id : Nat) (L : Loc) : upd ρ id L id = some L := by simp [upd]
theorem upd_other (ρ : Rn) {id j : Nat} (L : Loc) (h : j ≠ id) : upd ρ id L j = ρ j := by simp [upd, h]
theorem le_upd {ρ : Rn} {id : Nat} {L : Loc} (h : ρ id = none) : ρ.le (upd ρ id L) := fun j K hK => by
  by_cases e : j = id
  · subst e; rw [h] at hK; cases hK
  · rw [upd_other ρ L e]; exact hK

theorem Conc.none {ρ : Rn} {s : St} {w : World} (hc : Conc ρ s w) {id : Nat} (h : ρ id = Option.none) : s.heap.get id = Option.none := by
  cases hg : s.heap.get id with
  | none => rfl
  | some o => obtain ⟨L, hL, _⟩ := hc.obj id o hg; rw [h] at hL; cases hL
theorem Conc.at {ρ : Rn} {s : St} {w : World} (hc : Conc ρ s w) {id : Nat} {o : AObj} {L : Loc} (hg : s.heap.get id = some o) (hL : ρ id = some L) : ObjC ρ w L o := by
  obtain ⟨L', hL', ho⟩ := hc.obj id o hg
  rw [hL] at hL'; cases hL'; exact ho

/-- a new object in a new block -/
theorem Conc.alloc {ρ : Rn} {s : St} {w : World} (hc : Conc ρ s w) (hf : ρ s.next = Option.none) (O : Obj) (L : Loc) (hL : L.b = w.heap.size) (o : AObj)
    (ho : ObjC ρ (w.alloc O) L o) : Conc (upd ρ s.next L) { heap := s.heap.set s.next o, next := s.next + 1 } (w.alloc O) where
  obj id o' hg := by
    simp only [Tr.get_set] at hg
    by_cases e : id = s.next
    · subst e
      rw [if_pos rfl] at hg; cases hg
      exact ⟨L, upd_same _ _ _, ObjC_mono (le_upd hf) ho⟩
    · rw [if_neg e] at hg
      obtain ⟨L', h1, h2⟩ := hc.obj id o' hg
      refine ⟨L', by rw [upd_other _ _ e]; exact h1, ObjC_mono (le_upd hf) (ObjC_same h2 ?_)⟩
      exact Go.heap_alloc_old w O (ObjC_lt h2)
  inj id id' o1 o2 L1 L2 hg hg' hown h1 h2 hb := by
    simp only [Tr.get_set] at hg hg'
    by_cases e : id = s.next
    · by_cases e' : id' = s.next
      · rw [e, e']
      · subst e
        rw [upd_same] at h1; cases h1
        rw [if_neg e'] at hg'
        rw [upd_other _ _ e'] at h2
        have := ObjC_lt (hc.at hg' h2)
        omega
    · rw [if_neg e] at hg
      rw [upd_other _ _ e] at h1
      by_cases e' : id' = s.next
      · subst e'
        rw [upd_same] at h2; cases h2
        have := ObjC_lt (hc.at hg h1)
        omega
      · rw [if_neg e'] at hg'
        rw [upd_other _ _ e'] at h2
        exact hc.inj id id' o1 o2 L1 L2 hg hg' hown h1 h2 hb
theorem Chg.alloc {ρ : Rn} {s : St} {w : World} (hc : Conc ρ s w) (O : Obj) (L : Loc) (hL : L.b = w.heap.size) (o : AObj) :
    Chg ρ s w (upd ρ s.next L) { heap := s.heap.set s.next o, next := s.next + 1 } (w.alloc O) where
  os := rfl
  tape := rfl
  output := rfl
  size := by simp
  next := by simp
  same b hb _ := Go.heap_alloc_old w O hb
  own b hb ho := by
    obtain ⟨id, o', L', hg, hown, h1, h2⟩ := ho
    simp only [Tr.get_set] at hg
    by_cases e : id = s.next
    · subst e
      rw [upd_same] at h1; cases h1
      omega
    · rw [if_neg e] at hg
      rw [upd_other _ _ e] at h1
      exact ⟨id, o', L', hg, hown, h1, h2⟩
  live b hb ho := by
    obtain ⟨id, o', L', hg, h1, h2⟩ := ho
    simp only [Tr.get_set] at hg
    by_cases e : id = s.next
    · subst e
      rw [upd_same] at h1; cases h1
      omega
    · rw [if_neg e] at hg
      rw [upd_other _ _ e] at h1
      exact ⟨id, o', L', hg, h1, h2⟩
  out id hn := upd_other _ _ (fun e => hn ⟨by omega, by simp [e]⟩)

/-- an object of ours has changed in its block -/
theorem Conc.change {ρ : Rn} {s : St} {w w' : World} (hc : Conc ρ s w) {id : Nat} {o o' : AObj} {L : Loc} (hg : s.heap.get id = some o) (hown : o.own = true) (hL : ρ id = some L)
    (hw : ∀ b, b ≠ L.b → w'.heap[b]? = w.heap[b]?) (ho : ObjC ρ w' L o') : Conc ρ { s with heap := s.heap.set id o' } w' where
  obj j o1 hj := by
    simp only [Tr.get_set] at hj
    by_cases e : j = id
    · subst e; rw [if_pos rfl] at hj; cases hj
      exact ⟨L, hL, ho⟩
    · rw [if_neg e] at hj
      obtain ⟨L', h1, h2⟩ := hc.obj j o1 hj
      refine ⟨L', h1, ObjC_same h2 (hw _ fun hb => e ?_)⟩
      exact (hc.inj id j o o1 L L' hg hj hown hL h1 hb.symm).symm
  inj j j' o1 o2 L1 L2 h1 h2 hown' hl1 hl2 hb := by
    simp only [Tr.get_set] at h1 h2
    by_cases e : j = id
    · by_cases e' : j' = id
      · rw [e, e']
      · subst e
        rw [if_neg e'] at h2
        exact hc.inj j j' o o2 L1 L2 hg h2 hown hl1 hl2 hb
    · rw [if_neg e] at h1
      by_cases e' : j' = id
      · subst e'
        exact hc.inj j j' o1 o L1 L2 h1 hg hown' hl1 hl2 hb
      · rw [if_neg e'] at h2
        exact hc.inj j j' o1 o2 L1 L2 h1 h2 hown' hl1 hl2 hb
theorem Chg.change {ρ : Rn} {s : St} {w w' : World} {id : Nat} {o o' : AObj} {L : Loc} (hg : s.heap.get id = some o) (hown : o.own = true) (hL : ρ id = some L)
    (hw : ∀ b, b ≠ L.b → w'.heap[b]? = w.heap[b]?) (hos : w'.os = w.os) (ht : w'.tape = w.tape) (hout : w'.output = w.output) (hs : w.heap.size ≤ w'.heap.size) :
    Chg ρ s w ρ { s with heap := s.heap.set id o' } w' where
  os := hos
  tape := ht
  output := hout
  size := hs
  next := Nat.le_refl _
  same b hb hn := hw b fun e => hn ⟨id, o, L, hg, hown, hL, e.symm⟩
  own b hb ho := by
    obtain ⟨j, o1, L1, h1, h2, h3, h4⟩ := ho
    simp only [Tr.get_set] at h1
    by_cases e : j = id
    · subst e
      exact ⟨j, o, L1, hg, hown, h3, h4⟩
    · rw [if_neg e] at h1
      exact ⟨j, o1, L1, h1, h2, h3, h4⟩
  live b hb ho := by
    obtain ⟨j, o1, L1, h1, h3, h4⟩ := ho
    simp only [Tr.get_set] at h1
    by_cases e : j = id
    · subst e
      exact ⟨j, o, L1, hg, h3, h4⟩
    · rw [if_neg e] at h1
      exact ⟨j, o1, L1, h1, h3, h4⟩
  out _ _ := rfl

theorem cellsAt_length : ∀ {n : Nat} {t : Tr AV} {k : Nat} {l : List AV}, cellsAt t k n = some l → l.length = n := by
  intro n
  induction n with
  | zero => intro t k l h; simp only [cellsAt, Option.some.injEq] at h; subst h; rfl
  | succ n ih =>
    intro t k l h
    simp only [cellsAt] at h
    split at h
    · split at h
      · rename_i l' hl'
        simp only [Option.some.injEq] at h; subst h
        simp [ih hl']
      · cases h
    · cases h
theorem cellsAt_get : ∀ {n : Nat} {t : Tr AV} {k : Nat} {l : List AV}, cellsAt t k n = some l → ∀ j, j < n → t.get (k + j) = l[j]? := by
  intro n
  induction n with
  | zero => intro t k l h j hj; omega
  | succ n ih =>
    intro t k l h j hj
    simp only [cellsAt] at h
    split at h
    · rename_i v hv
      split at h
      · rename_i l' hl'
        simp only [Option.some.injEq] at h; subst h
        cases j with
        | zero => simpa using hv
        | succ j =>
          have := ih hl' j (by omega)
          rw [show k + (j + 1) = k + 1 + j from by omega, this]
          simp
      · cases h
    · cases h
theorem storeAt_get : ∀ {l : List AV} {t : Tr AV} {k j : Nat}, (storeAt t k l).get j = if k ≤ j ∧ j < k + l.length then l[j - k]? else t.get j := by
  intro l
  induction l with
  | nil => intro t k j; simp only [storeAt, List.length_nil]; rw [if_neg (by omega)]
  | cons v r ih =>
    intro t k j
    simp only [storeAt, ih, Tr.get_set, List.length_cons]
    by_cases h1 : k + 1 ≤ j ∧ j < k + 1 + r.length
    · rw [if_pos h1, if_pos (by omega)]
      obtain ⟨d, rfl⟩ : ∃ d, j = k + 1 + d := ⟨j - (k + 1), by omega⟩
      rw [show k + 1 + d - (k + 1) = d from by omega, show k + 1 + d - k = d + 1 from by omega]
      simp
    · rw [if_neg h1]
      by_cases h2 : j = k
      · subst h2; rw [if_pos rfl, if_pos (by omega)]; simp
      · rw [if_neg h2, if_neg (by omega)]

section
variable {ρ : Rn} {s : St} {w : World}
/-- what is read of a row -/
theorem csOf_cell (hc : Conc ρ s w) {id : Nat} {cs : Tr AV} (h : csOf s id = some cs) {L : Loc} (hL : ρ id = some L) {j : Nat} {v : AV} (hv : cs.get j = some v) :
    ∃ x, w.cell? ⟨L.b, L.o + j, none⟩ = some x ∧ R ρ v x := by
  unfold csOf at h
  split at h
  · rename_i e n cs' op hg
    simp only [Option.some.injEq] at h; subst h
    obtain ⟨c, fr, h1, _, h3, _⟩ := hc.at hg hL
    obtain ⟨x, hx, hr⟩ := h3 j v hv
    exact ⟨x, by rw [cell_of_row w _ _ _ _ _ h1]; exact hx, hr⟩
  · rename_i cs' hg
    simp only [Option.some.injEq] at h; subst h
    obtain ⟨c, e, fr, h1, h3⟩ := hc.at hg hL
    obtain ⟨x, hx, hr⟩ := h3 j v hv
    exact ⟨x, by rw [cell_of_row w _ _ _ _ _ h1]; exact hx, hr⟩
  · cases h
theorem csOf_ex (hc : Conc ρ s w) {id : Nat} {cs : Tr AV} (h : csOf s id = some cs) : ∃ L, ρ id = some L := by
  unfold csOf at h
  split at h
  · rename_i hg; obtain ⟨L, hL, _⟩ := hc.obj _ _ hg; exact ⟨L, hL⟩
  · rename_i hg; obtain ⟨L, hL, _⟩ := hc.obj _ _ hg; exact ⟨L, hL⟩
  · cases h
theorem csOf_cells (hc : Conc ρ s w) {id : Nat} {cs : Tr AV} (h : csOf s id = some cs) {L : Loc} (hL : ρ id = some L) {k n : Nat} {l : List AV} (hl : cellsAt cs k n = some l) :
    ∃ xs : List Value, xs.length = n ∧ Rs ρ l xs ∧ ∀ j u, xs[j]? = some u → w.cell? ((⟨L.b, L.o + k, none⟩ : Addr).add j) = some u := by
  have key : ∀ (n k : Nat) (l : List AV), cellsAt cs k n = some l → ∃ xs : List Value, xs.length = n ∧ Rs ρ l xs ∧ ∀ j u, xs[j]? = some u → w.cell? ⟨L.b, L.o + k + j, none⟩ = some u := by
    intro n
    induction n with
    | zero => intro k l hl; simp only [cellsAt, Option.some.injEq] at hl; subst hl; exact ⟨[], rfl, by simp [Rs], by simp⟩
    | succ n ih =>
      intro k l hl
      simp only [cellsAt] at hl
      split at hl
      · rename_i v hv
        split at hl
        · rename_i l' hl'
          simp only [Option.some.injEq] at hl; subst hl
          obtain ⟨xs, h1, h2, h3⟩ := ih (k + 1) l' hl'
          obtain ⟨x, hx, hr⟩ := csOf_cell hc h hL hv
          refine ⟨x :: xs, by simp [h1], by simp only [Rs]; exact ⟨x, xs, rfl, hr, h2⟩, ?_⟩
          intro j u hj
          cases j with
          | zero => simp at hj; subst hj; exact hx
          | succ j =>
            simp at hj
            have := h3 j u hj
            rw [show L.o + k + (j + 1) = L.o + (k + 1) + j from by omega]; exact this
        · cases hl
      · cases hl
  obtain ⟨xs, h1, h2, h3⟩ := key n k l hl
  refine ⟨xs, h1, h2, fun j u hj => ?_⟩
  have := h3 j u hj
  unfold Addr.add
  split
  · rename_i h0; subst h0; simpa using this
  · simpa using this
end

/-- the world behind stores of some cells of one row -/
theorem run_storeAll (P : Program) {ρ : Rn} {s : St} {w : World} (hc : Conc ρ s w) {id : Nat} {e n : Nat} {cs : Tr AV} {op : Option Nat} {L : Loc}
    (hg : s.heap.get id = some (.row e n cs op)) (hL : ρ id = some L) {k : Nat} {l : List AV} {xs : List Value} (hr : Rs ρ l xs) (h1 : l.all AV.one = true) (hk : k + l.length ≤ n) :
    ∃ w', (storeCells ⟨L.b, L.o + k, none⟩ xs).run P w = .ok () w' ∧ Conc ρ (putRow s id e n (storeAt cs k l) op) w' ∧ Chg ρ s w ρ (putRow s id e n (storeAt cs k l) op) w' := by
  obtain ⟨c, fr, hb, hfr, hcs, hsz⟩ := hc.at hg hL
  have hlen : xs.length = l.length := Rs_length hr
  have hcap : L.o + n ≤ c.size := by cases op <;> simp only at hsz <;> omega
  have hone : ∀ u ∈ xs, u.oneCell' = true := by
    intro u hu
    obtain ⟨j, hj⟩ := List.getElem?_of_mem hu
    have hjl : j < l.length := by rw [← hlen]; exact (List.getElem?_eq_some_iff.1 hj).1
    obtain ⟨y, hy, hry⟩ := Rs_get hr (List.getElem?_eq_getElem hjl)
    rw [hj] at hy; cases hy
    exact R_one hry (List.all_eq_true.1 h1 _ (List.getElem_mem hjl))
  have hcell : ∀ j, j < xs.length → (w.cell? ⟨L.b, L.o + k + 0 + j, none⟩).isSome = true := by
    intro j hj
    rw [cell_of_row w _ _ _ _ _ hb, Array.getElem?_eq_getElem (by omega)]; rfl
  have hfz : ∀ j, j < xs.length → w.frozen? ⟨L.b, L.o + k + 0 + j, none⟩ = false := by
    intro j hj
    have := hfr.1 (L.o + k + 0 + j) (by omega)
    simp only [World.frozen?, hb]
    simpa using this
  have hrun := run_storeCells_cells (P := P) L.b (L.o + k) xs 0 w hcell hfz hone
  simp only [Nat.add_zero] at hrun
  refine ⟨w.setCells L.b (L.o + k) xs, hrun, ?_⟩
  have hother : ∀ (vs : List Value) (o : Nat) (w : World) (b : Nat), b ≠ L.b → (w.setCells L.b o vs).heap[b]? = w.heap[b]? := by
    intro vs
    induction vs with
    | nil => intro o w b _; rfl
    | cons v r ih =>
      intro o w b hne
      simp only [World.setCells]
      rw [ih _ _ _ hne, heap_setCell_other _ _ _ _ (by simpa using hne)]
  have hself : ∀ (vs : List Value) (o : Nat) (w : World) (c : Array Value), w.heap[L.b]? = some (.cells c e fr) → o + vs.length ≤ c.size →
      ∃ c', (w.setCells L.b o vs).heap[L.b]? = some (.cells c' e fr) ∧ c'.size = c.size ∧ ∀ j, c'[j]? = if o ≤ j ∧ j < o + vs.length then vs[j - o]? else c[j]? := by
    intro vs
    induction vs with
    | nil => intro o w c h _; exact ⟨c, h, rfl, fun j => by simp only [List.length_nil]; rw [if_neg (by omega)]⟩
    | cons v r ih =>
      intro o w c h hle
      simp only [List.length_cons] at hle
      have h' : (w.setCell ⟨L.b, o, none⟩ v).heap[L.b]? = some (.cells (c.setIfInBounds o v) e fr) := by
        simp [World.setCell, Array.getElem?_modify, h]
      obtain ⟨c', h1, h2, h3⟩ := ih (o + 1) _ _ h' (by simp; omega)
      refine ⟨c', h1, by simpa using h2, fun j => ?_⟩
      rw [h3]
      simp only [List.length_cons]
      by_cases hj : o + 1 ≤ j ∧ j < o + 1 + r.length
      · rw [if_pos hj, if_pos (by omega)]
        obtain ⟨d, rfl⟩ : ∃ d, j = o + 1 + d := ⟨j - (o + 1), by omega⟩
        rw [show o + 1 + d - (o + 1) = d from by omega, show o + 1 + d - o = d + 1 from by omega]
        simp
      · rw [if_neg hj]
        by_cases hj' : j = o
        · subst hj'
          rw [if_pos (by omega)]
          simp [Array.getElem?_setIfInBounds]
          omega
        · rw [if_neg (by omega), Array.getElem?_setIfInBounds_ne (by omega)]
  obtain ⟨c', hb', hs', hg'⟩ := hself xs (L.o + k) w c hb (by omega)
  have hw : ∀ b, b ≠ L.b → (w.setCells L.b (L.o + k) xs).heap[b]? = w.heap[b]? := fun b hb => hother xs _ _ b hb
  have hsz' : ∀ (vs : List Value) (o : Nat) (w : World), (w.setCells L.b o vs).os = w.os ∧ (w.setCells L.b o vs).tape = w.tape ∧ (w.setCells L.b o vs).output = w.output ∧ (w.setCells L.b o vs).heap.size = w.heap.size := by
    intro vs
    induction vs with
    | nil => intro o w; exact ⟨rfl, rfl, rfl, rfl⟩
    | cons v r ih =>
      intro o w
      simp only [World.setCells]
      obtain ⟨a1, a2, a3, a4⟩ := ih (o + 1) (w.setCell ⟨L.b, o, none⟩ v)
      exact ⟨a1, a2, a3, by rw [a4]; simp⟩
  obtain ⟨b1, b2, b3, b4⟩ := hsz' xs (L.o + k) w
  have hobj : ObjC ρ (w.setCells L.b (L.o + k) xs) L (.row e n (storeAt cs k l) op) := by
    refine ⟨c', fr, hb', ⟨fun i hi => hfr.1 i (by omega), hfr.2⟩, fun i v hv => ?_, by rw [hs']; exact hsz⟩
    rw [storeAt_get] at hv
    by_cases hi : k ≤ i ∧ i < k + l.length
    · rw [if_pos hi] at hv
      obtain ⟨y, hy, hry⟩ := Rs_get hr hv
      refine ⟨y, ?_, hry⟩
      rw [hg', if_pos (by omega), show L.o + i - (L.o + k) = i - k from by omega]; exact hy
    · rw [if_neg hi] at hv
      obtain ⟨y, hy, hry⟩ := hcs i v hv
      refine ⟨y, ?_, hry⟩
      rw [hg', if_neg (by omega)]; exact hy
  exact ⟨hc.change hg rfl hL hw hobj, Chg.change hg rfl hL hw b1 b2 b3 (by rw [b4]; exact Nat.le_refl _)⟩
end Go.Av
