/- The operations of the abstract run are true words of the model's, part 5. Generic: no program in it. -/
import Derived.Test.YtbjmmkfaikkidaaGreatAvG
set_option linter.constructorNameAsVariable false
set_option linter.unusedVariables false
set_option linter.unusedSimpArgs false
namespace Go.Av
open Go.RowKit

section
variable {P : Program} {ρ : Rn} {e : Env} {a : Act} {s : St} {w : World} {o : Oper} {k : KOp} {v : AV} {s' : St}

/-! slices -/
theorem cOpt_spec {x : Option Operand} {k : Option KO} (h : cOpt x = some k) : (x = none ∧ k = none) ∨ ∃ y z, x = some y ∧ k = some z ∧ cO y = some z := by
  cases x with
  | none => simp only [cOpt, Option.some.injEq] at h; exact .inl ⟨rfl, h.symm⟩
  | some y =>
    simp only [cOpt] at h
    split at h
    · rename_i z hz; simp only [Option.some.injEq] at h; exact .inr ⟨y, z, rfl, h.symm, hz⟩
    · cases h
theorem run_bound (he : RE ρ e a) {y : Operand} {z : KO} (hz : cO y = some z) {d m n m' : Nat} (h : bnd e (some z) d m = some n) (hm : m ≤ m') (code : BoundsCode) (w : World) :
    (Instr.sliceBound (a.eval y) m' code).run P w = .ok n w ∧ n ≤ m := by
  have ry := R_opd he hz
  simp only [bnd] at h
  split at h
  · rename_i k i hv
    rw [hv] at ry
    split at h
    · rename_i hc
      simp only [Option.some.injEq] at h; subst h
      refine ⟨?_, by omega⟩
      have h2 : i ≤ (m' : Int) := by omega
      simp [Instr.sliceBound, Ri ry, asIntOf, hc.1, h2]
    · cases h
  · cases h
theorem run_sliceBounds (he : RE ρ e a) {lo hi mx : Option Operand} {klo khi kmx : Option KO} (hlo : cOpt lo = some klo) (hhi : cOpt hi = some khi) (hmx : cOpt mx = some kmx)
    (hmh : ¬ (kmx.isSome = true ∧ khi.isNone = true)) {isSlice : Bool} {len cap c m h l : Nat} (hcc : cap ≤ c)
    (h1 : bnd e kmx cap cap = some m) (h2 : bnd e khi len m = some h) (h3 : bnd e klo 0 h = some l) (w : World) :
    (Instr.sliceBounds isSlice len c (lo.map a.eval) (hi.map a.eval) (mx.map a.eval)).run P w = .ok (l, h, if kmx.isSome then m else c) w ∧ (khi = none ∨ h ≤ m) ∧ m ≤ cap ∧ (klo = none ∨ l ≤ h) := by
  rcases cOpt_spec hmx with ⟨rfl, rfl⟩ | ⟨y, z, rfl, rfl, hz⟩
  · simp only [bnd, Option.some.injEq] at h1; subst h1
    rcases cOpt_spec hhi with ⟨rfl, rfl⟩ | ⟨y2, z2, rfl, rfl, hz2⟩
    · simp only [bnd, Option.some.injEq] at h2; subst h2
      rcases cOpt_spec hlo with ⟨rfl, rfl⟩ | ⟨y3, z3, rfl, rfl, hz3⟩
      · simp only [bnd, Option.some.injEq] at h3; subst h3
        simp [Instr.sliceBounds]
      · have b3 := fun code => run_bound (P := P) he hz3 h3 (Nat.le_refl _) code w
        simp [Instr.sliceBounds, (b3 _).1, (b3 .index).2]
    · have b2 := fun code => run_bound (P := P) he hz2 h2 hcc code w
      rcases cOpt_spec hlo with ⟨rfl, rfl⟩ | ⟨y3, z3, rfl, rfl, hz3⟩
      · simp only [bnd, Option.some.injEq] at h3; subst h3
        simp [Instr.sliceBounds, (b2 _).1, (b2 .index).2]
      · have b3 := fun code => run_bound (P := P) he hz3 h3 (Nat.le_refl _) code w
        simp [Instr.sliceBounds, (b2 _).1, (b2 .index).2, (b3 _).1, (b3 .index).2]
  · have b1 := fun code => run_bound (P := P) he hz h1 hcc code w
    rcases cOpt_spec hhi with ⟨rfl, rfl⟩ | ⟨y2, z2, rfl, rfl, hz2⟩
    · simp at hmh
    · have b2 := fun code => run_bound (P := P) he hz2 h2 (Nat.le_refl _) code w
      rcases cOpt_spec hlo with ⟨rfl, rfl⟩ | ⟨y3, z3, rfl, rfl, hz3⟩
      · simp only [bnd, Option.some.injEq] at h3; subst h3
        simp [Instr.sliceBounds, (b1 _).1, (b1 .index).2, (b2 _).1, (b2 .index).2]
      · have b3 := fun code => run_bound (P := P) he hz3 h3 (Nat.le_refl _) code w
        simp [Instr.sliceBounds, (b1 _).1, (b1 .index).2, (b2 _).1, (b2 .index).2, (b3 _).1, (b3 .index).2]
theorem bnd_none {e : Env} {d m n : Nat} (h : bnd e none d m = some n) : n = d := by simpa [bnd] using h.symm
theorem snd_slice {t : TypeId} {x : Operand} {lo hi mx : Option Operand} (he : RE ρ e a) (hc : Conc ρ s w) (hop : o.op = .slice t x lo hi mx) (hk : cOp P o = some k) (h : evOp e s k = some (v, s')) : Good P (execOp a.eval o) ρ s w v s' := by
  simp only [cOp, hop] at hk
  split at hk
  · -- a string
    rename_i kx klo khi hu hx hlo hhi hmx
    simp only [Option.some.injEq] at hk; subst hk
    have rx := R_opd he hx
    simp only [evOp] at h
    split at h
    · rename_i l hv
      rw [hv] at rx
      split at h
      · rename_i hb hhb
        split at h
        · rename_i lb hlb
          simp only [Option.some.injEq, Prod.mk.injEq] at h; obtain ⟨rfl, rfl⟩ := h
          have hmx0 : mx = none := by
            rcases cOpt_spec hmx with ⟨h1, _⟩ | ⟨_, _, _, h2, _⟩
            · exact h1
            · cases h2
          subst hmx0
          refine Good.pure (x := .string ⟨⟨(l.drop lb).take (hb - lb)⟩⟩) hc (by simp [R]) ?_
          have hsz : (ByteArray.mk ⟨l⟩).size = l.length := rfl
          have hbd := (run_sliceBounds (P := P) (isSlice := false) (len := l.length) (c := l.length) he hlo hhi hmx (by simp) (Nat.le_refl _) (by simp [bnd]) hhb hlb w).1
          have hfin : (ByteArray.mk ⟨l⟩).extract lb hb = ⟨⟨(l.drop lb).take (hb - lb)⟩⟩ := by
            apply ByteArray.ext
            rw [ByteArray.data_extract]
            apply Array.ext'
            simp [List.extract_eq_take_drop]
          simp only [Option.map_none] at hbd
          simp [execOp, hop, Instr.sliceAt, run_underlying hu, Instr.slice, Rstr rx, hsz, hbd, hfin]
        · cases h
      · cases h
    · cases h
  · -- a slice
    rename_i el kx klo khi kmx hu hx hlo hhi hmx
    split at hk
    · cases hk
    · rename_i hmh
      simp only [Option.map_eq_some_iff] at hk
      obtain ⟨n, hn, rfl⟩ := hk
      have rx := R_opd he hx
      simp only [evOp] at h
      split at h
      · rename_i hv
        rw [hv] at rx
        simp only [R] at rx
        split at h
        · rename_i m hm
          split at h
          · rename_i hb hhb
            split at h
            · rename_i lb hlb
              simp only [Option.some.injEq, Prod.mk.injEq] at h; obtain ⟨rfl, rfl⟩ := h
              have hbd := run_sliceBounds (P := P) (isSlice := true) (len := 0) (c := 0) (cap := 0) he hlo hhi hmx hmh (Nat.le_refl _) hm (h := hb) (l := lb) ?_ ?_ w
              · have hm0 : m = 0 := by omega
                have hh0 : hb = 0 := by
                  rcases hbd.2.1 with h0 | h0
                  · subst h0; exact bnd_none hhb
                  · omega
                have hl0 : lb = 0 := by
                  rcases hbd.2.2.2 with h0 | h0
                  · subst h0; exact bnd_none hlb
                  · omega
                subst hm0; subst hh0; subst hl0
                have hbd1 := hbd.1
                simp only [ite_self] at hbd1
                exact Good.pure (x := .slice none 0 0) hc (by simp [R]) (by simp [execOp, hop, Instr.sliceAt, run_underlying hu, Instr.slice, rx, hbd1, run_sizeOf hn])
              · have : m = 0 := by
                  cases kmx with
                  | none => exact bnd_none hm
                  | some z =>
                    simp only [bnd] at hm
                    split at hm
                    · split at hm
                      · simp only [Option.some.injEq] at hm; omega
                      · cases hm
                    · cases hm
                rw [this]; exact hhb
              · have : hb = 0 := by
                  cases khi with
                  | none => exact bnd_none hhb
                  | some z =>
                    simp only [bnd] at hhb
                    split at hhb
                    · split at hhb
                      · simp only [Option.some.injEq] at hhb; omega
                      · cases hhb
                    · cases hhb
                rw [this]; exact hlb
            · cases h
          · cases h
        · cases h
      · rename_i id off len cap op hv
        rw [hv] at rx
        simp only [R] at rx
        obtain ⟨L, ad, hL, hx', had⟩ := rx
        split at h
        · rename_i m hm
          split at h
          · rename_i hb hhb
            split at h
            · rename_i lb hlb
              split at h
              · rename_i hlm
                simp only [Option.some.injEq, Prod.mk.injEq] at h; obtain ⟨rfl, rfl⟩ := h
                obtain ⟨hbd, _, hmc, _⟩ := run_sliceBounds (P := P) (isSlice := true) (c := cap + if op then L.tl else 0) he hlo hhi hmx hmh (by omega) hm hhb hlb w
                refine Good.pure (x := .slice (if (if kmx.isSome then m else cap + if op then L.tl else 0) = lb then some ad else (some ad).map (·.add (lb * n))) (hb - lb) ((if kmx.isSome then m else cap + if op then L.tl else 0) - lb)) hc ?_
                  (by simp [execOp, hop, Instr.sliceAt, run_underlying hu, Instr.slice, hx', hbd, run_sizeOf hn])
                simp only [R]
                cases kmx with
                | none =>
                  have hmm := bnd_none hm
                  subst hmm
                  simp only [Option.isSome_none, Bool.false_eq_true, if_false]
                  by_cases h0 : (m + if op then L.tl else 0) = lb
                  · refine ⟨L, ad, hL, ?_, .inl (by omega)⟩
                    rw [if_pos h0]
                    congr 1
                    omega
                  · have had' : ad = ⟨L.b, L.o + off, none⟩ := had.resolve_left (by omega)
                    subst had'
                    refine ⟨L, _, hL, ?_, .inr rfl⟩
                    rw [if_neg h0]
                    simp only [Option.map_some, addr_add]
                    congr 1
                    omega
                | some z =>
                  simp only [Option.isSome_some, if_true, Bool.false_eq_true, if_false, Nat.add_zero]
                  by_cases h0 : m = lb
                  · refine ⟨L, ad, hL, ?_, .inl (by omega)⟩
                    rw [if_pos h0]
                  · have had' : ad = ⟨L.b, L.o + off, none⟩ := had.resolve_left (by omega)
                    subst had'
                    refine ⟨L, _, hL, ?_, .inr rfl⟩
                    rw [if_neg h0]
                    simp only [Option.map_some, addr_add]
              · cases h
            · cases h
          · cases h
        · cases h
      · cases h
  · -- an array behind a pointer
    rename_i len el kx klo khi hu hx hlo hhi hmx
    simp only [Option.map_eq_some_iff] at hk
    obtain ⟨n, hn, rfl⟩ := hk
    have rx := R_opd he hx
    simp only [evOp] at h
    split at h
    · rename_i id off hv
      rw [hv] at rx
      simp only [R] at rx
      obtain ⟨L, hL, hx'⟩ := rx
      split at h
      · rename_i hb hhb
        split at h
        · rename_i lb hlb
          simp only [Option.some.injEq, Prod.mk.injEq] at h; obtain ⟨rfl, rfl⟩ := h
          have hmx0 : mx = none := by
            rcases cOpt_spec hmx with ⟨h1, _⟩ | ⟨_, _, _, h2, _⟩
            · exact h1
            · cases h2
          subst hmx0
          obtain ⟨hbd, h2, _, h4⟩ := run_sliceBounds (P := P) (isSlice := false) (len := len) (c := len) he hlo hhi hmx (by simp) (Nat.le_refl _) (by simp [bnd]) hhb hlb w
          simp only [Option.map_none, Option.isSome_none, Bool.false_eq_true, if_false] at hbd
          refine Good.pure (x := .slice (some (if len = lb then ⟨L.b, L.o + off, none⟩ else (⟨L.b, L.o + off, none⟩ : Addr).add (lb * n))) (hb - lb) (len - lb)) hc ?_
            (by simp [execOp, hop, Instr.sliceAt, run_underlying hu, hx', Instr.sureAddr, hbd, run_sizeOf hn])
          simp only [R, Bool.false_eq_true, if_false, Nat.add_zero]
          by_cases h0 : len = lb
          · exact ⟨L, _, hL, rfl, .inl (by omega)⟩
          · refine ⟨L, _, hL, rfl, .inr ?_⟩
            rw [if_neg h0, addr_add]
        · cases h
      · cases h
    · cases h
  · cases hk
end
end Go.Av
