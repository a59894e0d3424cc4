/- The operations of the abstract run are true words of the model's, part 2: those that write nothing. Generic: no program in it. -/
import Derived.Test.YtbjmmkfaikkidaaGreatAvD
import Derived.Laws.StructEq
set_option linter.constructorNameAsVariable false
set_option linter.unusedVariables false
set_option linter.unusedSimpArgs false
namespace Go.Av
open Go.RowKit

section
variable {P : Program} {ρ : Rn} {e : Env} {a : Act} {s : St} {w : World} {o : Oper} {k : KOp} {v : AV} {s' : St}

theorem szOf_spec {t : TypeId} {n : Nat} (h : szOf P t = some n) : ∃ i, P.info? t = some i ∧ i.size = n := by
  unfold szOf at h
  split at h
  · rename_i i hi; simp only [Option.some.injEq] at h; exact ⟨i, hi, h⟩
  · cases h
theorem byOf_spec {t : TypeId} {n : Nat} (h : byOf P t = some n) : ∃ i, P.info? t = some i ∧ i.bytes = n := by
  unfold byOf at h
  split at h
  · rename_i i hi; simp only [Option.some.injEq] at h; exact ⟨i, hi, h⟩
  · cases h
theorem run_sizeOf {t : TypeId} {n : Nat} (h : szOf P t = some n) (w : World) : (sizeOf t).run P w = .ok n w := by
  obtain ⟨i, hi, rfl⟩ := szOf_spec h
  simp [sizeOf, typeInfo, hi]
theorem zeroOf_spec {t : TypeId} {z : AV} (h : zeroOf P t = some z) : ∃ i x, P.info? t = some i ∧ i.zero = some x ∧ ∀ ρ : Rn, R ρ z x := by
  unfold zeroOf at h
  split at h
  · rename_i i hi
    split at h
    · rename_i x hx; exact ⟨i, x, hi, hx, fun ρ => R_ofValue ρ x z h⟩
    · cases h
  · cases h
theorem zcells_spec {t : TypeId} {z : List AV} (h : zcells P t = some z) : ∃ i x, P.info? t = some i ∧ i.zero = some x ∧ ∀ ρ : Rn, Rs ρ z x.cells.toList := by
  unfold zcells at h
  split at h
  · rename_i y hy
    simp only [Option.some.injEq] at h; subst h
    obtain ⟨i, x, h1, h2, h3⟩ := zeroOf_spec hy
    exact ⟨i, x, h1, h2, fun ρ => R_cells (h3 ρ)⟩
  · cases h
theorem run_zeroValue {t : TypeId} {i : TypeInfo} {x : Value} (hi : P.info? t = some i) (hx : i.zero = some x) (w : World) : (zeroValue t).run P w = .ok x w := by
  simp [zeroValue, typeInfo, hi, hx]
theorem aggSize_spec {t : TypeId} {n : Option Nat} (h : aggSize P t = some n) : ∃ d m, P.underlying t = some d ∧ szOf P t = some m ∧ n = if isAggT d then some m else none := by
  unfold aggSize at h
  split at h
  · rename_i d m hd hm; simp only [Option.some.injEq] at h; exact ⟨d, m, hd, hm, h.symm⟩
  · cases h
theorem run_isAgg {t : TypeId} {n : Option Nat} (h : aggSize P t = some n) (w : World) : (isAgg t).run P w = .ok n.isSome w := by
  obtain ⟨d, m, hd, hm, rfl⟩ := aggSize_spec h
  cases d <;> simp [isAgg, run_underlying hd, isAggT]
theorem aggSize_some {t : TypeId} {n : Nat} (h : aggSize P t = some (some n)) : szOf P t = some n := by
  obtain ⟨d, m, hd, hm, h⟩ := aggSize_spec h
  split at h <;> simp_all

theorem Rb {b : Bool} {x : Value} (h : R ρ (.b b) x) : x = .bool b := by simpa [R] using h
theorem Ri {k : IntKind} {n : Int} {x : Value} (h : R ρ (.i k n) x) : x = .int k n := by simpa [R] using h
theorem Rstr {l : List UInt8} {x : Value} (h : R ρ (.s l) x) : x = .string ⟨⟨l⟩⟩ := by simpa [R] using h

theorem snd_move {x : Operand} (he : RE ρ e a) (hc : Conc ρ s w) (hop : o.op = .move x) (hk : cOp P o = some k) (h : evOp e s k = some (v, s')) : Good P (execOp a.eval o) ρ s w v s' := by
  simp only [cOp, hop, Option.map_eq_some_iff] at hk
  obtain ⟨kx, hx, rfl⟩ := hk
  simp only [evOp, Option.some.injEq, Prod.mk.injEq] at h
  obtain ⟨rfl, rfl⟩ := h
  exact Good.pure hc (R_opd he hx) (by simp [execOp, hop])
theorem snd_assign {x : Operand} (he : RE ρ e a) (hc : Conc ρ s w) (hop : o.op = .assign x) (hk : cOp P o = some k) (h : evOp e s k = some (v, s')) : Good P (execOp a.eval o) ρ s w v s' := by
  simp only [cOp, hop, Option.map_eq_some_iff] at hk
  obtain ⟨kx, hx, rfl⟩ := hk
  simp only [evOp, Option.some.injEq, Prod.mk.injEq] at h
  obtain ⟨rfl, rfl⟩ := h
  exact Good.pure hc (R_opd he hx) (by simp [execOp, hop])
theorem snd_pick {c x y : Operand} (he : RE ρ e a) (hc : Conc ρ s w) (hop : o.op = .pick c x y) (hk : cOp P o = some k) (h : evOp e s k = some (v, s')) : Good P (execOp a.eval o) ρ s w v s' := by
  simp only [cOp, hop] at hk
  split at hk
  · rename_i kc kx ky hkc hkx hky
    simp only [Option.some.injEq] at hk; subst hk
    have rc := R_opd he hkc
    simp only [evOp] at h
    split at h
    · rename_i hv
      simp only [Option.some.injEq, Prod.mk.injEq] at h; obtain ⟨rfl, rfl⟩ := h
      rw [hv] at rc
      exact Good.pure hc (R_opd he hkx) (by simp [execOp, hop, Rb rc, asBool])
    · rename_i hv
      simp only [Option.some.injEq, Prod.mk.injEq] at h; obtain ⟨rfl, rfl⟩ := h
      rw [hv] at rc
      exact Good.pure hc (R_opd he hky) (by simp [execOp, hop, Rb rc, asBool])
    · cases h
  · cases hk

theorem good_new (hc : Conc ρ s w) (hf : ρ s.next = none) (t : Nat) (l : List AV) (xs : Array Value) (hr : Rs ρ l xs.toList) :
    Conc (upd ρ s.next ⟨w.heap.size, 0, 0, undef⟩) (newRow s t l none) (w.alloc (.cells xs t)) ∧ Chg ρ s w (upd ρ s.next ⟨w.heap.size, 0, 0, undef⟩) (newRow s t l none) (w.alloc (.cells xs t)) := by
  refine ⟨hc.alloc hf (.cells xs t) ⟨w.heap.size, 0, 0, undef⟩ rfl _ ?_, Chg.alloc hc (.cells xs t) ⟨w.heap.size, 0, 0, undef⟩ rfl _⟩
  have hlen := Rs_length hr
  refine ⟨xs, (0, 0), heap_alloc_new w _, ⟨fun i _ => by omega, fun _ => rfl⟩, fun i v hv => ?_, by simp at hlen ⊢; omega⟩
  rw [Tr.get_ofList] at hv
  obtain ⟨y, hy, hry⟩ := Rs_get hr hv
  exact ⟨y, by simpa using hy, hry⟩

theorem snd_alloc {t : TypeId} (he : RE ρ e a) (hc : Conc ρ s w) (hop : o.op = .alloc t) (hk : cOp P o = some k) (h : evOp e s k = some (v, s')) (hf : Free ρ s s') : Good P (execOp a.eval o) ρ s w v s' := by
  simp only [cOp, hop] at hk
  split at hk
  · rename_i z hz
    simp only [Option.some.injEq] at hk; subst hk
    simp only [evOp, Option.some.injEq, Prod.mk.injEq] at h
    obtain ⟨rfl, rfl⟩ := h
    obtain ⟨i, x, hi, hx, hr⟩ := zcells_spec hz
    obtain ⟨h1, h2⟩ := good_new hc (hf s.next (Nat.le_refl _) (by simp [newRow])) t z x.cells (hr ρ)
    refine ⟨.pointer (some ⟨w.heap.size, 0, none⟩), _, _, .value _, ?_, .inl rfl, ?_, h1, h2⟩
    · simp [execOp, hop, Instr.alloc, run_zeroValue hi hx, newVar, Go.newRow]
    · simp [R, upd_same]
  · cases hk
theorem snd_box {t : TypeId} {x : Operand} (he : RE ρ e a) (hc : Conc ρ s w) (hop : o.op = .box t x) (hk : cOp P o = some k) (h : evOp e s k = some (v, s')) (hf : Free ρ s s') : Good P (execOp a.eval o) ρ s w v s' := by
  simp only [cOp, hop, Option.map_eq_some_iff] at hk
  obtain ⟨kx, hx, rfl⟩ := hk
  simp only [evOp, Option.some.injEq, Prod.mk.injEq] at h
  obtain ⟨rfl, rfl⟩ := h
  obtain ⟨h1, h2⟩ := good_new hc (hf s.next (Nat.le_refl _) (by simp [newRow])) t _ (a.eval x).cells (R_cells (R_opd he hx))
  refine ⟨.pointer (some ⟨w.heap.size, 0, none⟩), _, _, .value _, ?_, .inl rfl, ?_, h1, h2⟩
  · simp [execOp, hop, Instr.box, newVar, Go.newRow]
  · simp [R, upd_same]

theorem snd_load {t : TypeId} {x : Operand} (he : RE ρ e a) (hc : Conc ρ s w) (hop : o.op = .load t x) (hk : cOp P o = some k) (h : evOp e s k = some (v, s')) : Good P (execOp a.eval o) ρ s w v s' := by
  simp only [cOp, hop] at hk
  split at hk
  · rename_i n kx hn hx
    simp only [Option.some.injEq] at hk; subst hk
    have rx := R_opd he hx
    simp only [evOp] at h
    split at h
    · rename_i id off hv
      rw [hv] at rx
      simp only [R] at rx
      obtain ⟨L, hL, hx'⟩ := rx
      split at h
      · rename_i cs hcs
        split at h
        · rename_i l hl
          simp only [Option.some.injEq, Prod.mk.injEq] at h; obtain ⟨rfl, rfl⟩ := h
          obtain ⟨xs, h1, h2, h3⟩ := csOf_cells hc hcs hL hl
          have hrun := run_loadCells_list (P := P) (w := w) ⟨L.b, L.o + off, none⟩ xs h3
          refine Good.pure (x := .agg ⟨xs⟩) hc (by simp only [R]; exact ⟨xs, rfl, h2⟩) ?_
          subst h1
          simp [execOp, hop, Instr.loadAt, hx', Instr.sureAddr, loadVar, run_isAgg hn, run_sizeOf (aggSize_some hn), hrun]
        · cases h
      · cases h
    · cases h
  · rename_i kx hn hx
    simp only [Option.some.injEq] at hk; subst hk
    have rx := R_opd he hx
    simp only [evOp] at h
    split at h
    · rename_i id off hv
      rw [hv] at rx
      simp only [R] at rx
      obtain ⟨L, hL, hx'⟩ := rx
      split at h
      · rename_i cs hcs
        split at h
        · rename_i u hu
          simp only [Option.some.injEq, Prod.mk.injEq] at h; obtain ⟨rfl, rfl⟩ := h
          obtain ⟨y, h1, h2⟩ := csOf_cell hc hcs hL hu
          refine Good.pure (x := y) hc h2 ?_
          simp [execOp, hop, Instr.loadAt, hx', Instr.sureAddr, loadVar, run_isAgg hn, h1]
        · cases h
      · cases h
    · cases h
  · cases hk

theorem snd_store {t : TypeId} {x y : Operand} (he : RE ρ e a) (hc : Conc ρ s w) (hop : o.op = .store t x y) (hk : cOp P o = some k) (h : evOp e s k = some (v, s')) : Good P (execOp a.eval o) ρ s w v s' := by
  simp only [cOp, hop] at hk
  split at hk
  · rename_i n kx ky hn hx hy
    simp only [Option.some.injEq] at hk; subst hk
    have rx := R_opd he hx
    have ry := R_cells (R_opd he hy)
    simp only [evOp] at h
    split at h
    · rename_i id off hv
      rw [hv] at rx
      simp only [R] at rx
      obtain ⟨L, hL, hx'⟩ := rx
      split at h
      · rename_i te m cs op hg
        split at h
        · rename_i hcond
          simp only [Option.some.injEq, Prod.mk.injEq] at h; obtain ⟨rfl, rfl⟩ := h
          obtain ⟨w', hrun, hc', hch⟩ := run_storeAll P hc hg hL (k := off) ry hcond.2.2 (by rw [hcond.1]; exact hcond.2.1)
          have hlen := Rs_length ry
          refine ⟨undef, ρ, w', .skip, ?_, .inr ⟨rfl, rfl⟩, R_u, hc', hch⟩
          simp only [Array.length_toList] at hlen
          simp [execOp, hop, Instr.storeAt, hx', Instr.sureAddr, storeVar, run_sizeOf hn, hlen, hcond.1, hrun]
        · cases h
      · cases h
    · cases h
  · cases hk

theorem nilAhead_some {t : TypeId} {m : String} {g : Nat} (h : methOf P t m = some g) (z : Value) (n : Nat) (w : World) : (nilAhead (n + 1) t z m).run P w = .ok (some false) w := by
  unfold methOf at h
  split at h
  · cases h
  · rename_i i hi
    split at h
    · cases h
    · rename_i x hx
      split at h
      · rename_i f e hp hf hu
        simp [nilAhead, typeInfo, hi, hx, hp, followBlind, hf]
      · cases h
      · rename_i f d hnp hp hf hu
        simp only [nilAhead, typeInfo, Sem.run_bind, run_program, Result.andThen_ok, hi, hx, hp, followBlind, hf, Sem.run_pure, run_underlying hu]
        cases d <;> first | rfl | (exact absurd rfl (hnp _))
      · cases h
theorem snd_nilCheck {x : Operand} (he : RE ρ e a) (hc : Conc ρ s w) (hop : o.op = .nilCheck x) (hk : cOp P o = some k) (h : evOp e s k = some (v, s')) : Good P (execOp a.eval o) ρ s w v s' := by
  simp only [cOp, hop, Option.map_eq_some_iff] at hk
  obtain ⟨kx, hx, rfl⟩ := hk
  have rx := R_opd he hx
  simp only [evOp] at h
  split at h
  · rename_i id off hv
    simp only [Option.some.injEq, Prod.mk.injEq] at h; obtain ⟨rfl, rfl⟩ := h
    rw [hv] at rx
    have rx' := rx
    simp only [R] at rx
    obtain ⟨L, hL, hx'⟩ := rx
    exact Good.pure hc rx' (by simp [execOp, hop, hx'])
  · rename_i t u hv
    simp only [Option.some.injEq, Prod.mk.injEq] at h; obtain ⟨rfl, rfl⟩ := h
    rw [hv] at rx
    have rx' := rx
    simp only [R] at rx
    obtain ⟨y, hx', _⟩ := rx
    exact Good.pure hc rx' (by simp [execOp, hop, hx'])
  · rename_i g b c hv
    simp only [Option.some.injEq, Prod.mk.injEq] at h; obtain ⟨rfl, rfl⟩ := h
    rw [hv] at rx
    have rx' := rx
    simp only [R] at rx
    obtain ⟨y, z, hx', _⟩ := rx
    exact Good.pure hc rx' (by simp [execOp, hop, hx'])
  · rename_i m t u l b hv
    split at h
    · rename_i hok
      simp only [Option.some.injEq, Prod.mk.injEq] at h; obtain ⟨rfl, rfl⟩ := h
      rw [hv] at rx
      have rx' := rx
      simp only [R, Rs] at rx
      obtain ⟨a', b', hx', ⟨y, r', rfl, ⟨z, rfl, hz⟩, hr'⟩, hb'⟩ := rx
      obtain ⟨g, hg⟩ := Option.isSome_iff_exists.1 hok
      have hna := nilAhead_some hg z (P.types.size + 99) w
      have hd : P.types.size + Made.depth = P.types.size + 99 + 1 := rfl
      exact Good.pure hc rx' (by simp [execOp, hop, hx', hd, hna])
    · cases h
  · cases h

/-! arithmetic -/
theorem toList_string (l : List UInt8) : (ByteArray.mk ⟨l⟩).toList = l := by rw [ByteArray.toList_eq]
theorem R_binv {op : BinOp} {x y r : AV} {u u' : Value} (hx : R ρ x u) (hy : R ρ y u') (h : binv op x y = some r) (t : TypeId) (w : World) : ∃ z, (binOp op t u u').run P w = .ok z w ∧ R ρ r z := by
  unfold binv at h
  split at h
  · rename_i k1 n1 k2 n2
    split at h
    · cases h
    · rename_i hb
      simp only [Option.some.injEq] at h; subst h
      rw [Ri hx, Ri hy]
      exact ⟨_, (by simp [binOp, Op.shift, hb]; rfl), by simp [R]⟩
  · rename_i k1 n1 k2 n2
    split at h
    · cases h
    · rename_i hb
      simp only [Option.some.injEq] at h; subst h
      rw [Ri hx, Ri hy]
      exact ⟨_, (by simp [binOp, Op.shift, hb]; rfl), by simp [R]⟩
  · rename_i op' k1 n1 k2 n2 hn1 hn2
    rw [Ri hx, Ri hy]
    split at h
    · cases h
    · rename_i hkk
      simp only [ne_eq, Decidable.not_not] at hkk
      subst hkk
      cases op <;> simp only [reduceCtorEq, false_implies, implies_true, not_true_eq_false, forall_const, imp_false] at h hn1 hn2 <;> first
        | (cases h; done)
        | (split at h
           · cases h
           · rename_i h0
             simp only [Option.some.injEq] at h; subst h
             exact ⟨_, (by simp [binOp, Op.intDiv, h0]; rfl), by simp [R]⟩)
        | (simp only [Option.some.injEq] at h; subst h
           exact ⟨_, (by simp [binOp, Op.intArith, Op.intBits, Op.intCmp]; rfl), by simp [R]⟩)
  · rename_i op' l1 l2
    rw [Rstr hx, Rstr hy]
    cases op <;> simp only at h <;> first
      | (cases h; done)
      | (split at h
         · rename_i hle
           simp only [Option.some.injEq] at h; subst h
           refine ⟨.string ⟨⟨l1 ++ l2⟩⟩, ?_, by simp [R]⟩
           have hs : ∀ l : List UInt8, (ByteArray.mk ⟨l⟩).size = l.length := fun l => rfl
           have h63 : ¬ (((l1.length + l2.length : Nat) : Int) > IntKind.i64.max) := by
             have : IntKind.i64.max = 9223372036854775807 := by decide
             rw [this]; omega
           simp only [binOp, Op.stringOp, hs]
           rw [if_neg h63]
           simp only [Sem.run_pure, Result.ok.injEq, and_true, Value.string.injEq]
           apply ByteArray.ext
           rw [ByteArray.data_append]
           simp
         · cases h)
      | (simp only [Option.some.injEq] at h; subst h
         exact ⟨_, (by simp [binOp, Op.stringOp, toList_string]; rfl), by simp [R, Bool.not_or]⟩)
  · rename_i op' k1 n1 k2 n2
    simp only [R] at hx hy; subst hx; subst hy
    split at h
    · cases h
    · rename_i hkk
      simp only [ne_eq, Decidable.not_not] at hkk
      subst hkk
      cases op <;> simp only at h <;> first
        | (cases h; done)
        | (simp only [Option.some.injEq] at h; subst h
           exact ⟨_, (by simp [binOp, Op.floatCmp]; rfl), by simp [R]⟩)
  · cases h
end
end Go.Av
