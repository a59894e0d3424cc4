/- The operations of the abstract run are true words of the model's, part 4. Generic: no program in it. -/
import Derived.Test.YtbjmmkfaikkidaaGreatAvF
set_option linter.constructorNameAsVariable false
set_option linter.unusedVariables false
set_option linter.unusedSimpArgs false
namespace Go.Av
open Go.RowKit

section
variable {P : Program} {ρ : Rn} {e : Env} {a : Act} {s : St} {w : World} {o : Oper} {k : KOp} {v : AV} {s' : St}

theorem snd_unOp {op : UnOp} {t : TypeId} {x : Operand} (he : RE ρ e a) (hc : Conc ρ s w) (hop : o.op = .unOp op t x) (hk : cOp P o = some k) (h : evOp e s k = some (v, s')) : Good P (execOp a.eval o) ρ s w v s' := by
  simp only [cOp, hop, Option.map_eq_some_iff] at hk
  obtain ⟨kx, hx, rfl⟩ := hk
  have rx := R_opd he hx
  simp only [evOp] at h
  split at h
  · rename_i b hv
    simp only [Option.some.injEq, Prod.mk.injEq] at h; obtain ⟨rfl, rfl⟩ := h
    rw [hv] at rx
    exact Good.pure (x := .bool (!b)) hc (by simp [R]) (by simp [execOp, hop, Rb rx, Op.unary])
  · rename_i k n hv
    simp only [Option.some.injEq, Prod.mk.injEq] at h; obtain ⟨rfl, rfl⟩ := h
    rw [hv] at rx
    exact Good.pure (x := .int k (k.wrap (0 - n))) hc (by simp [R]) (by simp [execOp, hop, Ri rx, Op.unary, Op.intArith])
  · rename_i k n hv
    rw [hv] at rx
    split at h
    · rename_i r hr
      simp only [Option.some.injEq, Prod.mk.injEq] at h; obtain ⟨rfl, rfl⟩ := h
      obtain ⟨z, hz, hrz⟩ := R_binv (P := P) (ρ := ρ) (u := .int k (if k.signed then -1 else k.max)) (u' := .int k n) (by simp [R]) (by simp [R]) hr 0 w
      refine Good.pure hc hrz ?_
      have : (Op.intBits .xor k (if k.signed then -1 else k.max) n).run P w = .ok z w := by
        rw [← hz]; simp [binOp]
      simp [execOp, hop, Ri rx, Op.unary, this]
    · cases h
  · cases h
theorem snd_makeInterface {t : TypeId} {x : Operand} (he : RE ρ e a) (hc : Conc ρ s w) (hop : o.op = .makeInterface t x) (hk : cOp P o = some k) (h : evOp e s k = some (v, s')) : Good P (execOp a.eval o) ρ s w v s' := by
  simp only [cOp, hop] at hk
  split at hk
  · cases hk
  · rename_i d kx hni hu hx
    simp only [Option.some.injEq] at hk; subst hk
    simp only [evOp, Option.some.injEq, Prod.mk.injEq] at h; obtain ⟨rfl, rfl⟩ := h
    refine Good.pure (x := .iface t (a.eval x)) hc (by simp only [R]; exact ⟨_, rfl, R_opd he hx⟩) ?_
    have hrun : (Instr.makeInterface t (a.eval x)).run P w = .ok (.iface t (a.eval x)) w := by
      simp only [Instr.makeInterface, Sem.run_bind, run_underlying hu, Result.andThen_ok]
      cases d <;> first | rfl | (exact absurd rfl (hni _))
    simp [execOp, hop, hrun]
  · cases hk
theorem snd_makeFunc {g : Nat} {x y : Array Operand} (he : RE ρ e a) (hc : Conc ρ s w) (hop : o.op = .makeFunc (.func g) x y) (hk : cOp P o = some k) (h : evOp e s k = some (v, s')) : Good P (execOp a.eval o) ρ s w v s' := by
  simp only [cOp, hop] at hk
  split at hk
  · rename_i kx ky hx hy
    simp only [Option.some.injEq] at hk; subst hk
    simp only [evOp, Option.some.injEq, Prod.mk.injEq] at h; obtain ⟨rfl, rfl⟩ := h
    refine Good.pure (x := .func (.func g) ⟨x.toList.map a.eval⟩ ⟨y.toList.map a.eval⟩) hc (by simp only [R]; exact ⟨_, _, rfl, Rs_opds he hx, Rs_opds he hy⟩) ?_
    simp only [execOp, hop, Instr.makeFunc, Sem.run_bind, Sem.run_pure, Result.andThen_ok, Result.ok.injEq, Next.value.injEq, Value.func.injEq, and_true, true_and]
    exact ⟨Array.ext' (by simp), Array.ext' (by simp)⟩
  · cases hk
theorem snd_makeMeth {m : String} {x y : Array Operand} (he : RE ρ e a) (hc : Conc ρ s w) (hop : o.op = .makeFunc (.method m) x y) (hk : cOp P o = some k) (h : evOp e s k = some (v, s')) : Good P (execOp a.eval o) ρ s w v s' := by
  simp only [cOp, hop] at hk
  split at hk
  · rename_i kx ky hx hy
    simp only [Option.some.injEq] at hk; subst hk
    simp only [evOp, Option.some.injEq, Prod.mk.injEq] at h; obtain ⟨rfl, rfl⟩ := h
    refine Good.pure (x := .func (.method m) ⟨x.toList.map a.eval⟩ ⟨y.toList.map a.eval⟩) hc (by simp only [R]; exact ⟨_, _, rfl, Rs_opds he hx, Rs_opds he hy⟩) ?_
    simp only [execOp, hop, Instr.makeFunc, Sem.run_bind, Sem.run_pure, Result.andThen_ok, Result.ok.injEq, Next.value.injEq, Value.func.injEq, and_true, true_and]
    exact ⟨Array.ext' (by simp), Array.ext' (by simp)⟩
  · cases hk
theorem snd_makeMap {t : TypeId} (he : RE ρ e a) (hc : Conc ρ s w) (hop : o.op = .makeMap t none) (hk : cOp P o = some k) (h : evOp e s k = some (v, s')) (hf : Free ρ s s') : Good P (execOp a.eval o) ρ s w v s' := by
  simp only [cOp, hop, Option.some.injEq] at hk; subst hk
  simp only [evOp, Option.some.injEq, Prod.mk.injEq] at h; obtain ⟨rfl, rfl⟩ := h
  have hfr := hf s.next (Nat.le_refl _) (by simp)
  have h1 := hc.alloc hfr (.map #[] 0) ⟨w.heap.size, 0, 0, undef⟩ rfl (.map []) ⟨#[], 0, heap_alloc_new w _, by simp [Rs], by simp [Rs]⟩
  refine ⟨.map (some w.heap.size), _, _, .value _, ?_, .inl rfl, ?_, h1, Chg.alloc hc (.map #[] 0) ⟨w.heap.size, 0, 0, undef⟩ rfl _⟩
  · simp [execOp, hop, Instr.makeMap]
  · simp [R, upd_same]
theorem snd_fieldAddr {t : TypeId} {x : Operand} {f : Nat} (he : RE ρ e a) (hc : Conc ρ s w) (hop : o.op = .fieldAddr t x f) (hk : cOp P o = some k) (h : evOp e s k = some (v, s')) : Good P (execOp a.eval o) ρ s w v s' := by
  simp only [cOp, hop] at hk
  split at hk
  · rename_i fs kx hu hx
    split at hk
    · rename_i fd hfd
      split at hk
      · rename_i n hn
        simp only [Option.some.injEq] at hk; subst hk
        have rx := R_opd he hx
        simp only [evOp] at h
        split at h
        · rename_i id off hv
          simp only [Option.some.injEq, Prod.mk.injEq] at h; obtain ⟨rfl, rfl⟩ := h
          rw [hv] at rx
          simp only [R] at rx
          obtain ⟨L, hL, hx'⟩ := rx
          refine Good.pure (x := .pointer (some ⟨L.b, L.o + (off + fd.offset), none⟩)) hc (by simp only [R]; exact ⟨L, hL, rfl⟩) ?_
          have hadd : (⟨L.b, L.o + off, none⟩ : Addr).add fd.offset = ⟨L.b, L.o + (off + fd.offset), none⟩ := by
            unfold Addr.add; split
            · rename_i h0; simp [h0]
            · simp [Nat.add_assoc]
          simp [execOp, hop, Instr.fieldAt, run_underlying hu, hfd, hx', Instr.sureAddr, fieldPlace, run_sizeOf hn, hadd]
        · cases h
      · cases hk
    · cases hk
  · cases hk
theorem snd_field {t : TypeId} {x : Operand} {f : Nat} (he : RE ρ e a) (hc : Conc ρ s w) (hop : o.op = .field t x f) (hk : cOp P o = some k) (h : evOp e s k = some (v, s')) : Good P (execOp a.eval o) ρ s w v s' := by
  simp only [cOp, hop] at hk
  split at hk
  · rename_i fs kx hu hx
    split at hk
    · rename_i fd hfd
      simp only [Option.map_eq_some_iff] at hk
      obtain ⟨ag, hag, rfl⟩ := hk
      have rx := R_opd he hx
      simp only [evOp] at h
      split at h
      · rename_i l hv
        split at h
        · rename_i r hr
          simp only [Option.some.injEq, Prod.mk.injEq] at h; obtain ⟨rfl, rfl⟩ := h
          rw [hv] at rx
          simp only [R] at rx
          obtain ⟨xs, hx', hxs⟩ := rx
          obtain ⟨y, hy, hry⟩ := run_part hag hxs hr w
          exact Good.pure hc hry (by simp [execOp, hop, Instr.field, run_underlying hu, hfd, hx', asAgg, hy])
        · cases h
      · cases h
    · cases hk
  · cases hk
theorem addr_add (L : Loc) (off n : Nat) : (⟨L.b, L.o + off, none⟩ : Addr).add n = ⟨L.b, L.o + (off + n), none⟩ := by
  unfold Addr.add; split
  · rename_i h0; simp [h0]
  · simp [Nat.add_assoc]
theorem snd_indexAddr {t : TypeId} {x y : Operand} (he : RE ρ e a) (hc : Conc ρ s w) (hop : o.op = .indexAddr t x y) (hk : cOp P o = some k) (h : evOp e s k = some (v, s')) : Good P (execOp a.eval o) ρ s w v s' := by
  simp only [cOp, hop] at hk
  split at hk
  · rename_i el kx ky hu hx hy
    simp only [Option.map_eq_some_iff] at hk
    obtain ⟨n, hn, rfl⟩ := hk
    have rx := R_opd he hx
    have ry := R_opd he hy
    simp only [evOp] at h
    split at h
    · rename_i id off len cap op k i hv1 hv2
      rw [hv1] at rx
      rw [hv2] at ry
      split at h
      · rename_i hcond
        simp only [Option.some.injEq, Prod.mk.injEq] at h; obtain ⟨rfl, rfl⟩ := h
        simp only [R] at rx
        obtain ⟨L, ad, hL, hx', had⟩ := rx
        have had' : ad = ⟨L.b, L.o + off, none⟩ := had.resolve_left (by omega)
        subst had'
        refine Good.pure (x := .pointer (some ⟨L.b, L.o + (off + i.toNat * n), none⟩)) hc (by simp only [R]; exact ⟨L, hL, rfl⟩) ?_
        simp [execOp, hop, Instr.indexAt, hx', Ri ry, asIntOf, run_underlying hu, hcond.1, hcond.2.1, run_sizeOf hn, addr_add]
      · cases h
    · cases h
  · rename_i m el kx ky hu hx hy
    simp only [Option.map_eq_some_iff] at hk
    obtain ⟨n, hn, rfl⟩ := hk
    have rx := R_opd he hx
    have ry := R_opd he hy
    simp only [evOp] at h
    split at h
    · rename_i id off k i hv1 hv2
      rw [hv1] at rx
      rw [hv2] at ry
      split at h
      · rename_i hcond
        simp only [Option.some.injEq, Prod.mk.injEq] at h; obtain ⟨rfl, rfl⟩ := h
        simp only [R] at rx
        obtain ⟨L, hL, hx'⟩ := rx
        refine Good.pure (x := .pointer (some ⟨L.b, L.o + (off + i.toNat * n), none⟩)) hc (by simp only [R]; exact ⟨L, hL, rfl⟩) ?_
        simp [execOp, hop, Instr.indexAt, hx', Ri ry, asIntOf, run_underlying hu, hcond.1, hcond.2, run_sizeOf hn, addr_add, Instr.sureAddr]
      · cases h
    · cases h
  · cases hk
theorem snd_index {t : TypeId} {x y : Operand} (he : RE ρ e a) (hc : Conc ρ s w) (hop : o.op = .index t x y) (hk : cOp P o = some k) (h : evOp e s k = some (v, s')) : Good P (execOp a.eval o) ρ s w v s' := by
  simp only [cOp, hop] at hk
  split at hk
  · rename_i kx ky hu hx hy
    simp only [Option.some.injEq] at hk; subst hk
    have rx := R_opd he hx
    have ry := R_opd he hy
    simp only [evOp] at h
    split at h
    · rename_i l k i hv1 hv2
      rw [hv1] at rx
      rw [hv2] at ry
      split at h
      · rename_i hi
        split at h
        · rename_i b hb
          simp only [Option.some.injEq, Prod.mk.injEq] at h; obtain ⟨rfl, rfl⟩ := h
          refine Good.pure (x := .int .u8 b.toNat) hc (by simp [R]) ?_
          have hb' : (ByteArray.mk ⟨l⟩)[i.toNat]? = some b := by
            have hlt := (List.getElem?_eq_some_iff.1 hb).1
            rw [getElem?_pos _ _ (by exact hlt)]
            have := (List.getElem?_eq_some_iff.1 hb).2
            rw [← this]; rfl
          simp [execOp, hop, Instr.index, Rstr rx, Ri ry, asIntOf, run_underlying hu, hi, hb']
        · cases h
      · cases h
    · cases h
  · rename_i m el kx ky hu hx hy
    split at hk
    · rename_i n ag hn hag
      simp only [Option.some.injEq] at hk; subst hk
      have rx := R_opd he hx
      have ry := R_opd he hy
      simp only [evOp] at h
      split at h
      · rename_i l k i hv1 hv2
        rw [hv1] at rx
        rw [hv2] at ry
        split at h
        · rename_i hcond
          split at h
          · rename_i r hr
            simp only [Option.some.injEq, Prod.mk.injEq] at h; obtain ⟨rfl, rfl⟩ := h
            simp only [R] at rx
            obtain ⟨xs, hx', hxs⟩ := rx
            obtain ⟨z, hz, hrz⟩ := run_part hag hxs hr w
            exact Good.pure hc hrz (by simp [execOp, hop, Instr.index, hx', Ri ry, asIntOf, run_underlying hu, hcond.1, hcond.2, run_sizeOf hn, hz])
          · cases h
        · cases h
      · cases h
    · cases hk
  · cases hk
theorem snd_extract {x : Operand} {i : Nat} (he : RE ρ e a) (hc : Conc ρ s w) (hop : o.op = .extract x i) (hk : cOp P o = some k) (h : evOp e s k = some (v, s')) : Good P (execOp a.eval o) ρ s w v s' := by
  simp only [cOp, hop, Option.map_eq_some_iff] at hk
  obtain ⟨kx, hx, rfl⟩ := hk
  have rx := R_opd he hx
  simp only [evOp] at h
  split at h
  · rename_i l hv
    split at h
    · rename_i r hr
      simp only [Option.some.injEq, Prod.mk.injEq] at h; obtain ⟨rfl, rfl⟩ := h
      rw [hv] at rx
      simp only [R] at rx
      obtain ⟨xs, hx', hxs⟩ := rx
      obtain ⟨y, hy, hry⟩ := Rs_get hxs hr
      exact Good.pure hc hry (by simp [execOp, hop, Instr.extract, hx', hy])
    · cases h
  · cases h
end
end Go.Av
