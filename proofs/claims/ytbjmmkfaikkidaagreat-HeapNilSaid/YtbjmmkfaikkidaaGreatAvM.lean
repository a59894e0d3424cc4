/- The operations of the abstract run are true words of the model's, part 10: copy; and all together. Generic: no program in it. -/
import Derived.Test.YtbjmmkfaikkidaaGreatAvL
set_option linter.constructorNameAsVariable false
set_option linter.unusedVariables false
set_option linter.unusedSimpArgs false
namespace Go.Av
open Go.RowKit

section
variable {P : Program} {ρ : Rn} {e : Env} {a : Act} {s : St} {w : World} {o : Oper} {k : KOp} {v : AV} {s' : St}

theorem first_spec (hc : Conc ρ s w) {x : AV} {u : Value} (hr : R ρ x u) {size n : Nat} {l : List AV} (h : srcCells s size n x = some l) :
    ∃ news, Rs ρ l news ∧ (Builtin.firstCells size n u).run P w = .ok news.toArray w := by
  unfold srcCells at h
  split at h
  · simp only [Option.some.injEq] at h; subst h
    simp only [R] at hr; subst hr
    exact ⟨[], by simp [Rs], rfl⟩
  · rename_i id off len cap op
    simp only [R] at hr
    obtain ⟨L, ad, hL, rfl, had⟩ := hr
    split at h
    · rename_i h0
      simp only [Option.some.injEq] at h; subst h; subst h0
      exact ⟨[], by simp [Rs], by simp [Builtin.firstCells, loadCells, loadCellsFrom]⟩
    · split at h
      · cases h
      · rename_i h0 hcap
        have had' : ad = ⟨L.b, L.o + off, none⟩ := had.resolve_left (by omega)
        subst had'
        split at h
        · rename_i cs hcs
          split at h
          · rename_i l' hl'
            split at h
            · rename_i hone
              simp only [Option.some.injEq] at h; subst h
              obtain ⟨xs, q1, q2, q3⟩ := csOf_cells hc hcs hL hl'
              exact ⟨xs, q2, run_firstCells_some w size n _ _ _ xs q1 q3⟩
            · cases h
          · cases h
        · cases h
  · rename_i l'
    split at h
    · rename_i hs1
      subst hs1
      simp only [Option.some.injEq] at h; subst h
      rw [Rstr hr]
      refine ⟨(l'.take n).map fun b => Value.int .u8 b.toNat, ?_, ?_⟩
      · generalize l'.take n = q
        induction q with
        | nil => simp [Rs]
        | cons b r ih => simp only [List.map_cons, Rs]; exact ⟨_, _, rfl, by simp [R], ih⟩
      · simp only [Builtin.firstCells, Sem.run_pure, Result.ok.injEq, and_true]
        apply Array.ext'
        rw [ByteArray.data_extract]
        simp [List.extract_eq_take_drop]
    · cases h
  · cases h
theorem snd_copy {x y : Operand} {kx ky : KO} {t u el : TypeId} {size : Nat} (he : RE ρ e a) (hc : Conc ρ s w) (hop : o.op = .call { callee := .builtin .copy, args := #[x, y], argTypes := #[t, u] }) (hx : cO x = some kx) (hy : cO y = some ky)
    (hu : P.underlying t = some (.slice el)) (hsz : szOf P el = some size) (h : evOp e s (.copy size kx ky) = some (v, s')) : Good P (execOp a.eval o) ρ s w v s' := by
  have rx := R_opd he hx
  have ry := R_opd he hy
  have hb := run_builtinCall (P := P) (a := a) hop w
  simp only [evOp] at h
  split at h
  · rename_i n hxv hn
    simp only [Option.some.injEq, Prod.mk.injEq] at h; obtain ⟨rfl, rfl⟩ := h
    rw [hxv] at rx; simp only [R] at rx
    have hl := R_len (P := P) ry hn w
    have h0 : ∃ news : Array Value, (Builtin.firstCells size 0 (a.eval y)).run P w = .ok news w := by
      unfold lenV at hn
      split at hn
      · rename_i hyv; rw [hyv] at ry; simp only [R] at ry; rw [ry]; exact ⟨_, rfl⟩
      · rename_i hyv; rw [hyv] at ry; simp only [R] at ry; obtain ⟨L, ad, _, hy', _⟩ := ry; rw [hy']; exact ⟨#[], by simp [Builtin.firstCells, loadCells, loadCellsFrom]⟩
      · rename_i hyv; rw [hyv] at ry; rw [Rstr ry]; exact ⟨_, rfl⟩
      · cases hn
    obtain ⟨news, hnews⟩ := h0
    refine Good.pure (x := .int .i64 0) hc (by simp [R]) ?_
    rw [hb]
    simp [builtin, Builtin.copy_, run_underlying hu, rx, hl, run_sizeOf hsz, hnews, goInt]
  · rename_i id off len cap op m hxv hn
    rw [hxv] at rx; simp only [R] at rx
    obtain ⟨L, ad, hL, hx', had⟩ := rx
    have hl := R_len (P := P) ry hn w
    split at h
    · rename_i hmin
      simp only [Option.some.injEq, Prod.mk.injEq] at h; obtain ⟨rfl, rfl⟩ := h
      have h0 : (Builtin.firstCells size 0 (a.eval y)).run P w = .ok #[] w := by
        unfold lenV at hn
        split at hn
        · rename_i hyv; rw [hyv] at ry; simp only [R] at ry; rw [ry]; rfl
        · rename_i hyv; rw [hyv] at ry; simp only [R] at ry; obtain ⟨L, ad, _, hy', _⟩ := ry; rw [hy']; simp [Builtin.firstCells, loadCells, loadCellsFrom]
        · rename_i hyv; rw [hyv] at ry; rw [Rstr ry]; simp [Builtin.firstCells]
        · cases hn
      have hmin' : Nat.min m len = 0 := hmin
      refine Good.pure (x := .int .i64 0) hc (by simp [R]) ?_
      rw [hb]
      simp [builtin, Builtin.copy_, run_underlying hu, hx', hl, run_sizeOf hsz, hmin', h0, goInt, storeCells]
    · split at h
      · cases h
      · rename_i hmin hcap
        have had' : ad = ⟨L.b, L.o + off, none⟩ := had.resolve_left (by omega)
        subst had'
        split at h
        · rename_i l t' kk cs op' hsrc hg
          split at h
          · rename_i hfit
            simp only [Option.some.injEq, Prod.mk.injEq] at h; obtain ⟨rfl, rfl⟩ := h
            obtain ⟨news, hrn, hfirst⟩ := first_spec (P := P) hc ry hsrc
            obtain ⟨w', hst, hc', hch⟩ := run_storeAll P hc hg hL (k := off) (l := l) hrn (srcCells_one hsrc) hfit
            have hfirst' : (Builtin.firstCells size (Nat.min m len) (a.eval y)).run P w = .ok news.toArray w := hfirst
            refine ⟨.int .i64 (Nat.min m len), ρ, w', .value _, ?_, .inl rfl, ?_, hc', hch⟩
            · rw [hb]
              simp [builtin, Builtin.copy_, run_underlying hu, hx', hl, run_sizeOf hsz, hfirst', goInt, hst]
            · simp only [R]
          · cases h
        · cases h
  · cases h

theorem rep_one {n : Nat} {z : List AV} (h : z.all AV.one = true) : (rep n z).all AV.one = true := by
  rw [List.all_eq_true] at h ⊢
  intro x hx
  simp only [rep, List.mem_map, List.mem_range] at hx
  obtain ⟨j, hj, rfl⟩ := hx
  have hlen : 0 < z.length := by
    rcases Nat.eq_zero_or_pos z.length with h0 | h0
    · rw [h0] at hj; omega
    · exact h0
  have hlt := Nat.mod_lt j hlen
  rw [List.getElem?_eq_getElem hlt]
  exact h _ (by simp)
theorem snd_clear {x : Operand} {kx : KO} {t el : TypeId} {n : Nat} {z : List AV} (he : RE ρ e a) (hc : Conc ρ s w) (hop : o.op = .call { callee := .builtin .clear, args := #[x], argTypes := #[t] }) (hx : cO x = some kx)
    (hu : P.underlying t = some (.slice el)) (hz : zcells P el = some z) (hone : z.all AV.one = true) (h : evOp e s (.clr z kx) = some (v, s')) : Good P (execOp a.eval o) ρ s w v s' := by
  have rx := R_opd he hx
  have hb := run_builtinCall (P := P) (a := a) hop w
  simp only [evOp] at h
  split at h
  · rename_i hxv
    simp only [Option.some.injEq, Prod.mk.injEq] at h; obtain ⟨rfl, rfl⟩ := h
    rw [hxv] at rx; simp only [R] at rx
    refine Good.pure (x := .tuple #[]) hc R_u ?_
    rw [hb]
    simp [builtin, Builtin.clear_, run_underlying hu, rx]
  · rename_i id off len cap op hxv
    rw [hxv] at rx; simp only [R] at rx
    obtain ⟨L, ad, hL, hx', had⟩ := rx
    split at h
    · rename_i h0
      subst h0
      simp only [Option.some.injEq, Prod.mk.injEq] at h; obtain ⟨rfl, rfl⟩ := h
      refine Good.pure (x := .tuple #[]) hc R_u ?_
      rw [hb]
      simp [builtin, Builtin.clear_, run_underlying hu, hx']
    · split at h
      · cases h
      · rename_i h0 hcap
        have had' : ad = ⟨L.b, L.o + off, none⟩ := had.resolve_left (by omega)
        subst had'
        split at h
        · rename_i t' kk cs op' hg
          split at h
          · rename_i hfit
            simp only [Option.some.injEq, Prod.mk.injEq] at h; obtain ⟨rfl, rfl⟩ := h
            obtain ⟨i, z', hi, hz', hr⟩ := zcells_spec hz
            have hrn : Rs ρ (rep len z) (Builtin.zeroCells z'.cells len).toList := by
              have := Rs_rep (hr ρ) len
              simpa [Builtin.zeroCells] using this
            obtain ⟨w', hst, hc', hch⟩ := run_storeAll P hc hg hL (k := off) (l := rep len z) hrn (rep_one hone) (by rw [rep_length]; exact hfit)
            refine ⟨.tuple #[], ρ, w', .value _, ?_, .inl rfl, R_u, hc', hch⟩
            rw [hb]
            obtain ⟨m, rfl⟩ : ∃ m, len = m + 1 := ⟨len - 1, by omega⟩
            simp [builtin, Builtin.clear_, run_underlying hu, hx', run_zeroValue hi hz', hst]
          · cases h
        · cases h
  · cases h

theorem Rs_erase : ∀ {x : List AV} {v : List Value} (i : Nat), Rs ρ x v → Rs ρ (x.eraseIdx i) (v.eraseIdx i) := by
  intro x
  induction x with
  | nil => intro v i h; simp only [Rs] at h; subst h; simp [Rs]
  | cons a r ih =>
    intro v i h
    simp only [Rs] at h; obtain ⟨y, s, rfl, h2, h3⟩ := h
    cases i with
    | zero => simpa using h3
    | succ i => simp only [List.eraseIdx_cons_succ, Rs]; exact ⟨y, _, rfl, h2, ih i h3⟩
theorem map_erase {α β : Type} (f : α → β) : ∀ (l : List α) (i : Nat), (l.eraseIdx i).map f = (l.map f).eraseIdx i
  | [], i => by simp
  | a :: r, 0 => by simp
  | a :: r, i + 1 => by simp [map_erase f r i]
theorem snd_delete {x y : Operand} {kx ky : KO} {t u kt el : TypeId} {ek : EqT} (he : RE ρ e a) (hc : Conc ρ s w) (hop : o.op = .call { callee := .builtin .delete, args := #[x, y], argTypes := #[t, u] }) (hx : cO x = some kx) (hy : cO y = some ky)
    (hu : P.underlying t = some (.map kt el)) (hek : eqt P 5 kt = some ek) (hki : ek = .int ∨ ek = .str) (h : evOp e s (.del ek kx ky) = some (v, s')) : Good P (execOp a.eval o) ρ s w v s' := by
  have rx := R_opd he hx
  have ry := R_opd he hy
  have hb := run_builtinCall (P := P) (a := a) hop w
  obtain ⟨d, hd, hdk⟩ := eqt_key hek hki
  have hck : ∀ em, (Instr.checkKey em 10000 kt (a.eval y)).run P w = .ok () w := fun em => run_checkKey_any hd (by
    rcases hdk with ⟨_, k, rfl⟩ | ⟨_, rfl⟩
    · exact .inl ⟨k, rfl⟩
    · exact .inr rfl) em 9999 _ w
  simp only [evOp] at h
  split at h
  · rename_i h2
    simp only [Option.some.injEq, Prod.mk.injEq] at h; obtain ⟨rfl, rfl⟩ := h
    rw [h2] at rx; simp only [R] at rx
    refine Good.pure (x := .tuple #[]) hc R_u ?_
    rw [hb]
    simp [builtin, Builtin.delete_, run_underlying hu, rx, hck]
  · rename_i id h2
    rw [h2] at rx; simp only [R] at rx
    obtain ⟨L, hL, hx'⟩ := rx
    split at h
    · rename_i es hg
      obtain ⟨c, ck, hm, hk1, hk2⟩ := hc.at hg hL
      have hlt : L.b < w.heap.size := (Array.getElem?_eq_some_iff.1 hm).1
      split at h
      · rename_i i p hfk
        simp only [Option.some.injEq, Prod.mk.injEq] at h; obtain ⟨rfl, rfl⟩ := h
        rcases findKey_now hdk ry es c.toList 0 _ hk1 hk2 hfk with ⟨h0, _⟩ | ⟨j, p', u', h0, h3, h4, _, hjlt, m, hm1, hm2⟩
        · cases h0
        · simp only [Option.some.injEq, Prod.mk.injEq] at h0; obtain ⟨rfl, rfl⟩ := h0
          have hfind := find_key hd h3 w
          have hw : ∀ b, b ≠ L.b → (w.heap.setIfInBounds L.b (.map (c.eraseIdxIfInBounds i) ck))[b]? = w.heap[b]? := fun b hb => by simp [Ne.symm hb]
          refine ⟨.tuple #[], ρ, { w with heap := w.heap.setIfInBounds L.b (.map (c.eraseIdxIfInBounds i) ck) }, .value _, ?_, .inl rfl, R_u, hc.change hg rfl hL hw ?_, Chg.change hg rfl hL hw rfl rfl rfl (by simp)⟩
          · rw [hb]
            simp [builtin, Builtin.delete_, run_underlying hu, hx', get_map hm, hck, hfind, set_map _ hm]
          · refine ⟨c.eraseIdxIfInBounds i, ck, by simp [hlt], ?_, ?_⟩
            · rw [map_erase, Array.toList_eraseIdxIfInBounds, map_erase]; exact Rs_erase i hk1
            · rw [map_erase, Array.toList_eraseIdxIfInBounds, map_erase]; exact Rs_erase i hk2
      · rename_i hfk
        simp only [Option.some.injEq, Prod.mk.injEq] at h; obtain ⟨rfl, rfl⟩ := h
        rcases findKey_now hdk ry es c.toList 0 _ hk1 hk2 hfk with ⟨_, h3⟩ | ⟨j, p', u', h0, _⟩
        · have hfind := find_key hd h3 w
          have hw : ∀ b, b ≠ L.b → (w.heap.setIfInBounds L.b (.map c ck))[b]? = w.heap[b]? := fun b hb => by simp [Ne.symm hb]
          refine ⟨.tuple #[], ρ, { w with heap := w.heap.setIfInBounds L.b (.map c ck) }, .value _, ?_, .inl rfl, R_u, hc.change hg rfl hL hw ?_, Chg.change hg rfl hL hw rfl rfl rfl (by simp)⟩
          · rw [hb]
            simp [builtin, Builtin.delete_, run_underlying hu, hx', get_map hm, hck, hfind, set_map _ hm]
          · exact ⟨c, ck, by simp [hlt], hk1, hk2⟩
        · cases h0
      · cases h
    · cases h
  · cases h

/-- operations that are no calls of functions -/
theorem evOp_sound (he : RE ρ e a) (hc : Conc ρ s w) (hk : cOp P o = some k) (h : evOp e s k = some (v, s')) (hf : Free ρ s s') : Good P (execOp a.eval o) ρ s w v s' := by
  cases hop : o.op with
  | move x => exact snd_move he hc hop hk h
  | assign x => exact snd_assign he hc hop hk h
  | pick c x y => exact snd_pick he hc hop hk h
  | alloc t => exact snd_alloc he hc hop hk h hf
  | box t x => exact snd_box he hc hop hk h hf
  | build t ps => exact snd_build he hc hop hk h
  | buildSlice t n ps => exact snd_buildSlice he hc hop hk h hf
  | load t x => exact snd_load he hc hop hk h
  | store t x y => exact snd_store he hc hop hk h
  | nilCheck x => exact snd_nilCheck he hc hop hk h
  | binOp op t x y t' => exact snd_binOp he hc hop hk h
  | unOp op t x => exact snd_unOp he hc hop hk h
  | convert t u x => exact snd_convert he hc hop hk h hf
  | makeInterface t x => exact snd_makeInterface he hc hop hk h
  | makeFunc fn x y =>
    cases fn with
    | func g => exact snd_makeFunc he hc hop hk h
    | method m => exact snd_makeMeth he hc hop hk h
    | _ => simp [cOp, hop] at hk
  | makeMap t r =>
    cases r with
    | none => exact snd_makeMap he hc hop hk h hf
    | some r => simp [cOp, hop] at hk
  | makeSlice t x y => exact snd_makeSlice he hc hop hk h hf
  | slice t x lo hi mx => exact snd_slice he hc hop hk h
  | fieldAddr t x f => exact snd_fieldAddr he hc hop hk h
  | field t x f => exact snd_field he hc hop hk h
  | indexAddr t x y => exact snd_indexAddr he hc hop hk h
  | index t x y => exact snd_index he hc hop hk h
  | lookup t x y ok =>
    simp only [cOp, hop] at hk
    split at hk
    · rename_i kt el kx ky hu hx hy
      split at hk
      · rename_i z het hz
        simp only [Option.some.injEq] at hk; subst hk
        exact snd_lookup he hc hop hx hy hu het (.inl rfl) hz h
      · rename_i z het hz
        simp only [Option.some.injEq] at hk; subst hk
        exact snd_lookup he hc hop hx hy hu het (.inr rfl) hz h
      · cases hk
    · cases hk
  | mapUpdate t x y z =>
    simp only [cOp, hop] at hk
    split at hk
    · rename_i kt el kx ky kz hu hx hy hz
      split at hk
      · rename_i het
        simp only [Option.some.injEq] at hk; subst hk
        exact snd_mapup he hc (.inl hop) hx hy hz hu het (.inl rfl) h
      · rename_i het
        simp only [Option.some.injEq] at hk; subst hk
        exact snd_mapup he hc (.inl hop) hx hy hz hu het (.inr rfl) h
      · cases hk
    · cases hk
  | insert t x y z =>
    simp only [cOp, hop] at hk
    split at hk
    · rename_i kt el kx ky kz hu hx hy hz
      split at hk
      · rename_i het
        simp only [Option.some.injEq] at hk; subst hk
        exact snd_mapup he hc (.inr hop) hx hy hz hu het (.inl rfl) h
      · rename_i het
        simp only [Option.some.injEq] at hk; subst hk
        exact snd_mapup he hc (.inr hop) hx hy hz hu het (.inr rfl) h
      · cases hk
    · cases hk
  | extract x i => exact snd_extract he hc hop hk h
  | call c =>
    obtain ⟨cal, args, ts⟩ := c
    simp only [cOp, hop] at hk
    split at hk
    · simp only [Option.some.injEq] at hk; subst hk; simp [evOp] at h
    · simp only [Option.map_eq_some_iff] at hk; obtain ⟨_, _, rfl⟩ := hk; simp [evOp] at h
    · simp only [Option.map_eq_some_iff] at hk; obtain ⟨_, _, rfl⟩ := hk; simp [evOp] at h
    · rename_i _ bo b l hl
      
      have harr1 : ∀ {A : Array Operand} {x}, A.toList = [x] → A = #[x] := fun h => Array.ext' (by simpa using h)
      have harr2 : ∀ {A : Array Operand} {x y}, A.toList = [x, y] → A = #[x, y] := fun h => Array.ext' (by simpa using h)
      have hty1 : ∀ {A : Array TypeId} {x}, A.toList = [x] → A = #[x] := fun h => Array.ext' (by simpa using h)
      have hty2 : ∀ {A : Array TypeId} {x y}, A.toList = [x, y] → A = #[x, y] := fun h => Array.ext' (by simpa using h)
      split at hk
      · rename_i kx t hts
        obtain ⟨x, hxs, hx⟩ := cOs_one hl
        rw [harr1 hxs, hty1 hts] at hop
        split at hk
        · rename_i hu
          simp only [Option.some.injEq] at hk; subst hk
          exact snd_len he hc hop hx (.inl ⟨hu, rfl⟩) h
        · rename_i el hu
          simp only [Option.some.injEq] at hk; subst hk
          exact snd_len he hc hop hx (.inr (.inl ⟨_, hu, rfl⟩)) h
        · rename_i y z hu
          simp only [Option.some.injEq] at hk; subst hk
          exact snd_len he hc hop hx (.inr (.inr ⟨_, _, hu, rfl⟩)) h
        · cases hk
      · rename_i kx t hts
        obtain ⟨x, hxs, hx⟩ := cOs_one hl
        rw [harr1 hxs, hty1 hts] at hop
        split at hk
        · rename_i el hu
          simp only [Option.some.injEq] at hk; subst hk
          exact snd_cap he hc hop hx hu h
        · cases hk
      · rename_i kx ky t u hts
        obtain ⟨x, y, hxs, hx, hy⟩ := cOs_two hl
        rw [harr2 hxs, hty2 hts] at hop
        split at hk
        · rename_i el e2 hu hu2
          split at hk
          · rename_i n b z hn hb hz
            split at hk
            · rename_i hcond
              simp only [Option.some.injEq] at hk; subst hk
              exact snd_append he hc hop hx hy hu (.inl ⟨_, hu2⟩) hn hb hz hcond.1 hcond.2.1 hcond.2.2 h hf
            · cases hk
          · cases hk
        · rename_i el hu hu2
          split at hk
          · rename_i b z0 hn hb hz
            split at hk
            · rename_i hcond
              simp only [Option.some.injEq] at hk; subst hk
              exact snd_append he hc hop hx hy hu (.inr hu2) hn hb hz rfl (by omega) hcond h hf
            · cases hk
          · cases hk
        · cases hk
      · rename_i kx ky t u hts
        obtain ⟨x, y, hxs, hx, hy⟩ := cOs_two hl
        rw [harr2 hxs, hty2 hts] at hop
        split at hk
        · rename_i el hu
          simp only [Option.map_eq_some_iff] at hk
          obtain ⟨n, hn, rfl⟩ := hk
          exact snd_copy he hc hop hx hy hu hn h
        · cases hk
      · rename_i kx t hts
        obtain ⟨x, hxs, hx⟩ := cOs_one hl
        rw [harr1 hxs, hty1 hts] at hop
        split at hk
        · rename_i el hu
          split at hk
          · rename_i n z hn hz
            split at hk
            · rename_i hcond
              simp only [Option.some.injEq] at hk; subst hk
              exact snd_clear (n := n) he hc hop hx hu hz hcond.2 h
            · cases hk
          · cases hk
        · cases hk
      · rename_i kx ky t u hts
        obtain ⟨x, y, hxs, hx, hy⟩ := cOs_two hl
        rw [harr2 hxs, hty2 hts] at hop
        split at hk
        · rename_i kt el hu
          split at hk
          · rename_i het
            simp only [Option.some.injEq] at hk; subst hk
            exact snd_delete he hc hop hx hy hu het (.inl rfl) h
          · rename_i het
            simp only [Option.some.injEq] at hk; subst hk
            exact snd_delete he hc hop hx hy hu het (.inr rfl) h
          · cases hk
        · cases hk
      · simp only [Option.some.injEq] at hk; subst hk
        exact snd_min he hc hop hl h
      · simp only [Option.some.injEq] at hk; subst hk
        exact snd_max he hc hop hl h
      · cases hk
    · cases hk
  | _ => simp [cOp, hop] at hk
end
end Go.Av
