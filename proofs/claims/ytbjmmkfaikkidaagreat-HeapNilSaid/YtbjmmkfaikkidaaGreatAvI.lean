/- The operations of the abstract run are true words of the model's, part 6. Generic: no program in it. -/
import Derived.Test.YtbjmmkfaikkidaaGreatAvH
set_option linter.constructorNameAsVariable false
set_option linter.unusedVariables false
set_option linter.unusedSimpArgs false
namespace Go.Av
open Go.RowKit

section
variable {P : Program} {ρ : Rn} {e : Env} {a : Act} {s : St} {w : World} {o : Oper} {k : KOp} {v : AV} {s' : St}

theorem rep_length (n : Nat) (z : List AV) : (rep n z).length = n * z.length := by simp [rep]
theorem Rs_rep {z : List AV} {x : Array Value} (hr : Rs ρ z x.toList) (n : Nat) : Rs ρ (rep n z) ((Array.range (n * x.size)).map (x[· % x.size]!)).toList := by
  have hlen := Rs_length hr
  simp only [Array.length_toList] at hlen
  refine Rs_of_get (by simp [rep_length, hlen]) ?_
  intro j p y hp hy
  simp only [rep, List.getElem?_map, Option.map_eq_some_iff] at hp
  obtain ⟨i, hi, rfl⟩ := hp
  simp only [Array.toList_map, List.getElem?_map, Option.map_eq_some_iff] at hy
  obtain ⟨i', hi', rfl⟩ := hy
  have h1 : i = j ∧ j < n * z.length := by
    obtain ⟨hlt, hv⟩ := List.getElem?_eq_some_iff.1 hi
    simp only [List.length_range, List.getElem_range] at hlt hv
    exact ⟨hv.symm, hlt⟩
  have h2 : i' = j := by
    rw [Array.getElem?_toList] at hi'
    obtain ⟨hlt, hv⟩ := Array.getElem?_eq_some_iff.1 hi'
    rw [Array.getElem_range] at hv
    exact hv.symm
  rw [h1.1, h2, hlen]
  have hz : 0 < z.length := by
    rcases Nat.eq_zero_or_pos z.length with h | h
    · rw [h] at h1; simp at h1
    · exact h
  have hlt := Nat.mod_lt j hz
  obtain ⟨y, hy, hry⟩ := Rs_get hr (List.getElem?_eq_getElem hlt)
  rw [List.getElem?_eq_getElem hlt]
  have : x[j % z.length]! = y := by
    rw [Array.getElem!_eq_getD, Array.getD_eq_getD_getElem?, ← Array.getElem?_toList, hy]; rfl
  rw [this]
  simpa using hry

theorem snd_makeSlice {t : TypeId} {x y : Operand} (he : RE ρ e a) (hc : Conc ρ s w) (hop : o.op = .makeSlice t x y) (hk : cOp P o = some k) (h : evOp e s k = some (v, s')) (hf : Free ρ s s') : Good P (execOp a.eval o) ρ s w v s' := by
  simp only [cOp, hop] at hk
  split at hk
  · rename_i el hu
    split at hk
    · rename_i b n z kx ky hb hn hz hx hy
      split at hk
      · rename_i hzl
        simp only [Option.some.injEq] at hk; subst hk
        have rx := R_opd he hx
        have ry := R_opd he hy
        simp only [evOp] at h
        split at h
        · rename_i l c hv1 hv2
          rw [hv1] at rx
          rw [hv2] at ry
          split at h
          · rename_i hcond
            simp only [Option.some.injEq, Prod.mk.injEq] at h; obtain ⟨rfl, rfl⟩ := h
            obtain ⟨i, z', hi, hz', hr⟩ := zcells_spec hz
            obtain ⟨i2, hi2, rfl⟩ := byOf_spec hb
            rw [hi] at hi2; cases hi2
            obtain ⟨i3, hi3, hnn⟩ := szOf_spec hn
            rw [hi] at hi3; cases hi3
            have hzs : z'.cells.size = i.size := by
              have := Rs_length (hr ρ)
              simp only [Array.length_toList] at this
              omega
            have hrun := run_make (P := P) w t el i z' hu hi hz' .i64 .i64 l c hcond.1 hcond.2.1 (by omega) (by omega)
            obtain ⟨h1, h2⟩ := good_new hc (hf s.next (Nat.le_refl _) (by simp [newRow])) el (rep c.toNat z) (madeCells z'.cells (c.toNat * i.size)) (by
              have := Rs_rep (hr ρ) c.toNat
              rw [hzs] at this
              simpa [madeCells, hzs] using this)
            refine ⟨.slice (some ⟨w.heap.size, 0, none⟩) l.toNat c.toNat, _, _, .value _, ?_, .inl rfl, ?_, h1, h2⟩
            · simp [execOp, hop, Ri rx, Ri ry, hrun]
            · simp [R, upd_same]
          · cases h
        · cases h
      · cases hk
    · cases hk
  · cases hk

/-! parts of literals -/
theorem fillAt_length (l : List AV) (q : Nat) (vs : List AV) (h : q + vs.length ≤ l.length) : (fillAt l q vs).length = l.length := by
  simp [fillAt]; omega
theorem Rs_fillAt {l vs : List AV} {c : Array Value} {us : Array Value} (hl : Rs ρ l c.toList) (hv : Rs ρ vs us.toList) {q : Nat} (h : q + vs.length ≤ l.length) :
    Rs ρ (fillAt l q vs) (us.zipIdx.foldl (fun cs (c, j) => cs.setIfInBounds (q + j) c) c).toList := by
  have hlv := Rs_length hv
  have hll := Rs_length hl
  simp only [Array.length_toList] at hlv hll
  have key : ∀ (us : List Value) (n : Nat) (c : Array Value), ((us.zipIdx n).foldl (fun cs (c, j) => cs.setIfInBounds (q + j) c) c).size = c.size ∧
      ∀ j, ((us.zipIdx n).foldl (fun cs (c, j) => cs.setIfInBounds (q + j) c) c)[j]? = if q + n ≤ j ∧ j < q + n + us.length ∧ j < c.size then us[j - (q + n)]? else c[j]? := by
    intro us
    induction us with
    | nil => intro n c; exact ⟨rfl, fun j => by simp; intro h1 h2; omega⟩
    | cons u r ih =>
      intro n c
      simp only [List.zipIdx_cons, List.foldl_cons]
      obtain ⟨h1, h2⟩ := ih (n + 1) (c.setIfInBounds (q + n) u)
      refine ⟨by rw [h1]; simp, fun j => ?_⟩
      rw [h2]
      simp only [Array.size_setIfInBounds, List.length_cons]
      by_cases hj : q + (n + 1) ≤ j ∧ j < q + (n + 1) + r.length ∧ j < c.size
      · rw [if_pos hj, if_pos (by omega)]
        obtain ⟨d, rfl⟩ : ∃ d, j = q + (n + 1) + d := ⟨j - (q + (n + 1)), by omega⟩
        rw [show q + (n + 1) + d - (q + (n + 1)) = d from by omega, show q + (n + 1) + d - (q + n) = d + 1 from by omega]
        simp
      · rw [if_neg hj]
        by_cases hj' : j = q + n
        · subst hj'
          by_cases hs : q + n < c.size
          · rw [if_pos (by omega)]; simp [Array.getElem?_setIfInBounds, hs]
          · rw [if_neg (by omega), Array.getElem?_setIfInBounds]; simp [hs, Array.getElem?_eq_none (Nat.le_of_not_lt hs)]
        · rw [if_neg (by omega), Array.getElem?_setIfInBounds_ne (by omega)]
  obtain ⟨k1, k2⟩ := key us.toList 0 c
  rw [← Array.foldl_toList, Array.toList_zipIdx]
  refine Rs_of_get (by rw [Array.length_toList, k1, fillAt_length _ _ _ h, hll]) ?_
  intro j p y hp hy
  rw [Array.getElem?_toList, k2] at hy
  simp only [fillAt] at hp
  by_cases h1 : j < q
  · rw [if_neg (by omega)] at hy
    rw [List.getElem?_append_left (by simp; omega), List.getElem?_append_left (by simp; omega), List.getElem?_take, if_pos h1] at hp
    obtain ⟨z, hz, hrz⟩ := Rs_get hl hp
    rw [Array.getElem?_toList, hy] at hz; cases hz; exact hrz
  · by_cases h2 : j < q + vs.length
    · rw [if_pos (by simp; omega)] at hy
      rw [List.getElem?_append_left (by simp; omega), List.getElem?_append_right (by simp; omega)] at hp
      simp only [List.length_take, Nat.min_eq_left (show q ≤ l.length from by omega)] at hp
      obtain ⟨z, hz, hrz⟩ := Rs_get hv hp
      simp only [Nat.add_zero] at hy
      rw [hy] at hz; cases hz; exact hrz
    · rw [if_neg (by simp; omega)] at hy
      rw [List.getElem?_append_right (by simp; omega)] at hp
      simp only [List.length_append, List.length_take, Nat.min_eq_left (show q ≤ l.length from by omega), List.getElem?_drop] at hp
      rw [show q + vs.length + (j - (q + vs.length)) = j from by omega] at hp
      obtain ⟨z, hz, hrz⟩ := Rs_get hl hp
      rw [Array.getElem?_toList, hy] at hz; cases hz; exact hrz
theorem run_fill (he : RE ρ e a) (place : Nat → Option (Nat × Nat)) : ∀ (ps : List (Nat × Operand)) (kp : List (Nat × Nat × KO)), cParts place ps = some kp → ∀ (l r : List AV) (c : Array Value), fillAll e l kp = some r → Rs ρ l c.toList →
    ∃ c', Instr.fill place c (ps.map fun (i, x) => (i, a.eval x)) = some c' ∧ Rs ρ r c'.toList
  | [], kp, hk, l, r, c, h, hr => by
    simp only [cParts, Option.some.injEq] at hk; subst hk
    simp only [fillAll, Option.some.injEq] at h; subst h
    exact ⟨c, rfl, hr⟩
  | (i, x) :: ps, kp, hk, l, r, c, h, hr => by
    simp only [cParts] at hk
    split at hk
    · rename_i q sz kx kr hp hx hkr
      simp only [Option.some.injEq] at hk; subst hk
      simp only [fillAll] at h
      split at h
      · rename_i hcond
        have rx := R_cells (R_opd he hx)
        have hlx := Rs_length rx
        have hlc := Rs_length hr
        simp only [Array.length_toList] at hlx hlc
        have h1 := Rs_fillAt hr rx hcond.2
        obtain ⟨c', hc', hr'⟩ := run_fill he place ps kr hkr _ r _ h h1
        refine ⟨c', ?_, hr'⟩
        simp only [List.map_cons, Instr.fill, hp]
        have hno : ¬ ((decide ((a.eval x).cells.size ≠ sz) || decide (q + (a.eval x).cells.size > c.size)) = true) := by
          simp; omega
        rw [if_neg (by simpa using hno)]
        exact hc'
      · cases h
    · cases hk
theorem placesOf_spec : ∀ (fs : List Field) (l : List (Nat × Nat)), placesOf P fs = some l → ∀ w : World, (fs.mapM fun f => (do pure (f.offset, ← sizeOf f.type) : Sem (Nat × Nat))).run P w = .ok l w
  | [], l, h, w => by simp only [placesOf, Option.some.injEq] at h; subst h; rfl
  | f :: r, l, h, w => by
    simp only [placesOf] at h
    split at h
    · rename_i n l' hn hl'
      simp only [Option.some.injEq] at h; subst h
      have ih := placesOf_spec r l' hl' w
      simp only [List.mapM_cons, Sem.run_bind, run_sizeOf hn, Result.andThen_ok, Sem.run_pure, ih]
    · cases h
theorem snd_build {t : TypeId} {ps : Array (Nat × Operand)} (he : RE ρ e a) (hc : Conc ρ s w) (hop : o.op = .build t ps) (hk : cOp P o = some k) (h : evOp e s k = some (v, s')) : Good P (execOp a.eval o) ρ s w v s' := by
  simp only [cOp, hop] at hk
  split at hk
  · rename_i fs z hu hz
    split at hk
    · rename_i pl hpl
      simp only [Option.map_eq_some_iff] at hk
      obtain ⟨kp, hkp, rfl⟩ := hk
      simp only [evOp] at h
      split at h
      · rename_i r hr
        simp only [Option.some.injEq, Prod.mk.injEq] at h; obtain ⟨rfl, rfl⟩ := h
        obtain ⟨i, x, hi, hx, hrz⟩ := zcells_spec hz
        obtain ⟨c', hc', hr'⟩ := run_fill he _ _ _ hkp _ r _ hr (hrz ρ)
        refine Good.pure (x := .agg c') hc (by simp only [R]; exact ⟨c'.toList, rfl, hr'⟩) ?_
        have hpl' := placesOf_spec fs.toList pl hpl w
        have hm : (fs.mapM fun f => (do pure (f.offset, ← sizeOf f.type) : Sem (Nat × Nat))).run P w = .ok pl.toArray w := by
          rw [Array.mapM_eq_mapM_toList]
          simp only [Sem.run_map, hpl', Result.andThen_ok]
        have hget : (fun i : Nat => (pl.toArray)[i]?) = fun i : Nat => pl[i]? := by funext i; simp
        have hfill : Instr.fill (pl.toArray[·]?) x.cells (ps.map fun (i, x) => (i, a.eval x)).toList = some c' := by
          rw [hget, Array.toList_map]; exact hc'
        have hb : (Instr.build t (ps.map fun (i, x) => (i, a.eval x))).run P w = .ok (.agg c') w := by
          simp only [Instr.build, Sem.run_bind, run_zeroValue hi hx, Result.andThen_ok, run_underlying hu, hm, hfill, Sem.run_pure]
        simp only [execOp, hop, Sem.run_bind, hb, Result.andThen_ok, Sem.run_pure]
      · cases h
    · cases hk
  · rename_i n el z hu hz
    split at hk
    · rename_i m hm
      simp only [Option.map_eq_some_iff] at hk
      obtain ⟨kp, hkp, rfl⟩ := hk
      simp only [evOp] at h
      split at h
      · rename_i r hr
        simp only [Option.some.injEq, Prod.mk.injEq] at h; obtain ⟨rfl, rfl⟩ := h
        obtain ⟨i, x, hi, hx, hrz⟩ := zcells_spec hz
        obtain ⟨c', hc', hr'⟩ := run_fill he _ _ _ hkp _ r _ hr (hrz ρ)
        refine Good.pure (x := .agg c') hc (by simp only [R]; exact ⟨c'.toList, rfl, hr'⟩) ?_
        have hfill : Instr.fill (fun i => some (i * m, m)) x.cells (ps.map fun (i, x) => (i, a.eval x)).toList = some c' := by
          rw [Array.toList_map]; exact hc'
        have hb : (Instr.build t (ps.map fun (i, x) => (i, a.eval x))).run P w = .ok (.agg c') w := by
          simp only [Instr.build, Sem.run_bind, run_zeroValue hi hx, Result.andThen_ok, run_underlying hu, run_sizeOf hm, hfill, Sem.run_pure]
        simp only [execOp, hop, Sem.run_bind, hb, Result.andThen_ok, Sem.run_pure]
      · cases h
    · cases hk
  · cases hk
theorem snd_buildSlice {t : TypeId} {n : Nat} {ps : Array (Nat × Operand)} (he : RE ρ e a) (hc : Conc ρ s w) (hop : o.op = .buildSlice t n ps) (hk : cOp P o = some k) (h : evOp e s k = some (v, s')) (hf : Free ρ s s') : Good P (execOp a.eval o) ρ s w v s' := by
  simp only [cOp, hop] at hk
  split at hk
  · rename_i el hu
    split at hk
    · rename_i m z hm hz
      split at hk
      · rename_i hcond
        simp only [Option.map_eq_some_iff] at hk
        obtain ⟨kp, hkp, rfl⟩ := hk
        simp only [evOp] at h
        split at h
        · rename_i r hr
          simp only [Option.some.injEq, Prod.mk.injEq] at h; obtain ⟨rfl, rfl⟩ := h
          obtain ⟨i, x, hi, hx, hrz⟩ := zcells_spec hz
          have hxs : x.cells.size = m := by
            have := Rs_length (hrz ρ)
            simp only [Array.length_toList] at this
            omega
          have hzr : Rs ρ (rep n z) ((Array.range (n * m)).map (x.cells[· % x.cells.size]!)).toList := by
            have := Rs_rep (hrz ρ) n
            rwa [hxs] at this ⊢
          obtain ⟨c', hc', hr'⟩ := run_fill he _ _ _ hkp _ r _ hr hzr
          have hfill : Instr.fill (fun i => some (i * m, m)) ((Array.range (n * m)).map (x.cells[· % x.cells.size]!)) (ps.map fun (i, x) => (i, a.eval x)).toList = some c' := by
            rw [Array.toList_map]; exact hc'
          obtain ⟨h1, h2⟩ := good_new hc (hf s.next (Nat.le_refl _) (by simp [newRow])) el r c' hr'
          have hle : ¬ (n * m > 2 ^ 24) := by omega
          have hb : (Instr.buildSlice t n (ps.map fun (i, x) => (i, a.eval x))).run P w = .ok (.slice (some ⟨w.heap.size, 0, none⟩) n n) (w.alloc (.cells c' el)) := by
            by_cases h0 : n * m = 0
            · have hz0 : (Array.range (n * m)).map ((#[] : Array Value)[· % (#[] : Array Value).size]!) = (Array.range (n * m)).map (x.cells[· % x.cells.size]!) := Array.ext' (by simp [h0])
              simp only [Instr.buildSlice, Sem.run_bind, run_underlying hu, Result.andThen_ok, run_sizeOf hm]
              rw [if_neg hle]
              simp only [Sem.run_bind, Sem.run_pure, Result.andThen_ok, if_pos h0, hz0, hfill, Go.newRow, run_newObj, World.alloc]
            · simp only [Instr.buildSlice, Sem.run_bind, run_underlying hu, Result.andThen_ok, run_sizeOf hm]
              rw [if_neg hle]
              simp only [Sem.run_bind, Sem.run_pure, Result.andThen_ok, if_neg h0, run_zeroValue hi hx, hfill, Go.newRow, run_newObj, World.alloc]
          refine ⟨.slice (some ⟨w.heap.size, 0, none⟩) n n, _, _, .value _, ?_, .inl rfl, ?_, h1, h2⟩
          · simp only [execOp, hop, Sem.run_bind, hb, Result.andThen_ok, Sem.run_pure]
          · simp [R, upd_same]
        · cases h
      · cases hk
    · cases hk
  · cases hk
end
end Go.Av
