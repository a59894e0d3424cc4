/- The operations of the abstract run are true words of the model's, part 9: append, copy; and all together. Generic: no program in it. -/
import Derived.Test.YtbjmmkfaikkidaaGreatAvK
set_option linter.constructorNameAsVariable false
set_option linter.unusedVariables false
set_option linter.unusedSimpArgs false
namespace Go.Av
open Go.RowKit

theorem setCells_other (b : Nat) : ∀ (vs : List Value) (q : Nat) (w : World) (j : Nat), j ≠ b → (w.setCells b q vs).heap[j]? = w.heap[j]? := by
  intro vs
  induction vs with
  | nil => intro q w j _; rfl
  | cons v r ih =>
    intro q w j hne
    simp only [World.setCells]
    rw [ih _ _ _ hne, heap_setCell_other _ _ _ _ (by simpa using hne)]
theorem setCells_self (b : Nat) (e : TypeId) (fr : Nat × Nat) : ∀ (vs : List Value) (q : Nat) (w : World) (c : Array Value), w.heap[b]? = some (.cells c e fr) → q + vs.length ≤ c.size →
    ∃ c', (w.setCells b q vs).heap[b]? = some (.cells c' e fr) ∧ c'.size = c.size ∧ ∀ j, c'[j]? = if q ≤ j ∧ j < q + vs.length then vs[j - q]? else c[j]? := by
  intro vs
  induction vs with
  | nil => intro o w c h _; exact ⟨c, h, rfl, fun j => by simp only [List.length_nil]; rw [if_neg (by omega)]⟩
  | cons v r ih =>
    intro q w c h hle
    simp only [List.length_cons] at hle
    have h' : (w.setCell ⟨b, q, none⟩ v).heap[b]? = some (.cells (c.setIfInBounds q v) e fr) := by
      simp [World.setCell, Array.getElem?_modify, h]
    obtain ⟨c', h1, h2, h3⟩ := ih (q + 1) _ _ h' (by simp; omega)
    refine ⟨c', h1, by simpa using h2, fun j => ?_⟩
    rw [h3]
    simp only [List.length_cons]
    by_cases hj : q + 1 ≤ j ∧ j < q + 1 + r.length
    · rw [if_pos hj, if_pos (by omega)]
      obtain ⟨d, rfl⟩ : ∃ d, j = q + 1 + d := ⟨j - (q + 1), by omega⟩
      rw [show q + 1 + d - (q + 1) = d from by omega, show q + 1 + d - q = d + 1 from by omega]
      simp
    · rw [if_neg hj]
      by_cases hj' : j = q
      · subst hj'
        rw [if_pos (by omega)]
        simp [Array.getElem?_setIfInBounds]
        omega
      · rw [if_neg (by omega), Array.getElem?_setIfInBounds_ne (by omega)]
theorem setCells_rest (b : Nat) : ∀ (vs : List Value) (q : Nat) (w : World), (w.setCells b q vs).os = w.os ∧ (w.setCells b q vs).tape = w.tape ∧ (w.setCells b q vs).output = w.output ∧ (w.setCells b q vs).heap.size = w.heap.size := by
  intro vs
  induction vs with
  | nil => intro q w; exact ⟨rfl, rfl, rfl, rfl⟩
  | cons v r ih =>
    intro q w
    simp only [World.setCells]
    obtain ⟨a1, a2, a3, a4⟩ := ih (q + 1) (w.setCell ⟨b, q, none⟩ v)
    exact ⟨a1, a2, a3, by rw [a4]; simp⟩

section
variable {P : Program} {ρ : Rn} {e : Env} {a : Act} {s : St} {w : World} {o : Oper} {k : KOp} {v : AV} {s' : St}

/-- a name is let go -/
theorem Conc.del (hc : Conc ρ s w) (id : Nat) : Conc ρ { s with heap := s.heap.del id } w where
  obj j q hj := by
    simp only [Tr.get_del] at hj
    split at hj
    · cases hj
    · exact hc.obj j q hj
  inj j j' q q' L L' h1 h2 := by
    simp only [Tr.get_del] at h1 h2
    split at h1
    · cases h1
    · split at h2
      · cases h2
      · exact hc.inj j j' q q' L L' h1 h2
theorem Own.del {ρ : Rn} {s : St} {id b : Nat} (h : Own ρ { s with heap := s.heap.del id } b) : Own ρ s b := by
  obtain ⟨j, q, L, h1, h2, h3, h4⟩ := h
  simp only [Tr.get_del] at h1
  split at h1
  · cases h1
  · exact ⟨j, q, L, h1, h2, h3, h4⟩
theorem Live.del {ρ : Rn} {s : St} {id b : Nat} (h : Live ρ { s with heap := s.heap.del id } b) : Live ρ s b := by
  obtain ⟨j, q, L, h1, h3, h4⟩ := h
  simp only [Tr.get_del] at h1
  split at h1
  · cases h1
  · exact ⟨j, q, L, h1, h3, h4⟩
theorem Chg.del (id : Nat) : Chg ρ s w ρ { s with heap := s.heap.del id } w :=
  ⟨rfl, rfl, rfl, Nat.le_refl _, Nat.le_refl _, fun _ _ _ => rfl, fun _ _ h => Own.del h, fun _ _ h => Live.del h, fun _ _ => rfl⟩

/-- what is appended -/
theorem srcCells_spec (hc : Conc ρ s w) {x : AV} {u : Value} (hr : R ρ x u) {size n : Nat} {l : List AV} (hn : lenV x = some n) (h : srcCells s size n x = some l) {tx : TypeId} (hk : (∃ e', P.underlying tx = some (.slice e')) ∨ P.underlying tx = some .string) :
    ∃ news, Rs ρ l news ∧ Src P size tx u n news w := by
  unfold srcCells at h
  split at h
  · simp only [Option.some.injEq] at h; subst h
    simp only [R] at hr; subst hr
    simp only [lenV, Option.some.injEq] at hn; subst hn
    exact ⟨[], by simp [Rs], hk, fun _ => rfl, rfl, rfl, by simp, by simp⟩
  · rename_i id off len cap op
    simp only [R] at hr
    obtain ⟨L, ad, hL, rfl, had⟩ := hr
    simp only [lenV, Option.some.injEq] at hn; subst hn
    split at h
    · rename_i h0
      simp only [Option.some.injEq] at h; subst h; subst h0
      have hf : ∀ w' : World, (Builtin.firstCells size 0 (.slice (some ad) 0 (cap + if op then L.tl else 0))).run P w' = .ok #[] w' := fun w' => by
        simp [Builtin.firstCells, loadCells, loadCellsFrom]
      exact ⟨[], by simp [Rs], hk, fun _ => rfl, hf w, hf _, by simp, by simp⟩
    · split at h
      · cases h
      · rename_i h0 hcap
        have had' : ad = ⟨L.b, L.o + off, none⟩ := had.resolve_left (by omega)
        subst had'
        split at h
        · rename_i cs hcs
          split at h
          · rename_i l' hl'
            split at h
            · rename_i hone
              simp only [Option.some.injEq] at h; subst h
              obtain ⟨xs, q1, q2, q3⟩ := csOf_cells hc hcs hL hl'
              refine ⟨xs, q2, hk, fun _ => rfl, run_firstCells_some w size len _ len _ xs q1 q3, run_firstCells_some w.drew size len _ len _ xs q1 (by simpa using q3), q1, ?_⟩
              intro z hz
              obtain ⟨j, hj⟩ := List.getElem?_of_mem hz
              have hjl : j < l'.length := by rw [← Rs_length q2]; exact (List.getElem?_eq_some_iff.1 hj).1
              obtain ⟨y, hy, hry⟩ := Rs_get q2 (List.getElem?_eq_getElem hjl)
              rw [hj] at hy; cases hy
              exact R_one hry (List.all_eq_true.1 hone _ (List.getElem_mem hjl))
            · cases h
          · cases h
        · cases h
  · rename_i l'
    split at h
    · rename_i hs1
      subst hs1
      simp only [Option.some.injEq] at h; subst h
      simp only [lenV, Option.some.injEq] at hn; subst hn
      rw [Rstr hr]
      have hsz : (ByteArray.mk ⟨l'⟩).size = l'.length := rfl
      refine ⟨byteCells ⟨⟨l'⟩⟩, ?_, hk, fun _ => rfl, by rw [← hsz]; exact firstCells_string _ w, by rw [← hsz]; exact firstCells_string _ w.drew, by rw [byteCells_length, hsz]; simp, ?_⟩
      · unfold byteCells
        simp only [List.take_length]
        clear hr hk hsz
        induction l' with
        | nil => simp [Rs]
        | cons b r ih => simp only [List.map_cons, Rs]; exact ⟨_, _, rfl, by simp [R], ih⟩
      · intro z hz
        unfold byteCells at hz
        obtain ⟨b, _, rfl⟩ := List.mem_map.1 hz
        rfl
    · cases h
  · cases h

/-- a row that goes on in its own spare, under a new name -/
theorem good_spare (hc : Conc ρ s w) (hfree : ρ s.next = none) {id : Nat} {el m sz len n off cap : Nat} {cs : Tr AV} {L : Loc} (hg : s.heap.get id = some (.row el m cs (some sz))) (hL : ρ id = some L) (hm : off + cap * sz = m)
    {old new : List AV} {olds news : List Value} (hro : Rs ρ old olds) (holl : olds.length = len * sz) (hcell : ∀ j u, olds[j]? = some u → w.cell? ((⟨L.b, L.o + off, none⟩ : Addr).add j) = some u) (hrn : Rs ρ new news) (hnl : news.length = n * sz) (hlc : len ≤ cap) (hin : len + n ≤ cap + L.tl) :
    Conc (upd ρ s.next ⟨L.b, L.o + off, cap + L.tl - (len + n), undef⟩) (newRow { s with heap := s.heap.del id } el (old ++ new) (some sz)) (w.setCells L.b (L.o + off + len * sz) news) ∧
    Chg ρ s w (upd ρ s.next ⟨L.b, L.o + off, cap + L.tl - (len + n), undef⟩) (newRow { s with heap := s.heap.del id } el (old ++ new) (some sz)) (w.setCells L.b (L.o + off + len * sz) news) ∧
    (∀ j, j < news.length → (w.cell? ⟨L.b, L.o + off + len * sz + j, none⟩).isSome = true) ∧ (∀ j, j < news.length → w.frozen? ⟨L.b, L.o + off + len * sz + j, none⟩ = false) := by
  obtain ⟨c, fr, hb, hfr, hcs, hsz⟩ := hc.at hg hL
  simp only at hsz
  have e1 : (len + n) * sz = len * sz + n * sz := Nat.add_mul _ _ _
  have e2 : (len + n) * sz ≤ (cap + L.tl) * sz := Nat.mul_le_mul_right _ hin
  have e3 : (cap + L.tl) * sz = cap * sz + L.tl * sz := Nat.add_mul _ _ _
  have e4 : (cap + L.tl - (len + n)) * sz = (cap + L.tl) * sz - (len + n) * sz := Nat.sub_mul _ _ _
  obtain ⟨c', hb', hs', hg'⟩ := setCells_self L.b el fr news (L.o + off + len * sz) w c hb (by omega)
  obtain ⟨r1, r2, r3, r4⟩ := setCells_rest L.b news (L.o + off + len * sz) w
  have hother := fun j hj => setCells_other L.b news (L.o + off + len * sz) w j hj
  have hid : id ≠ s.next := by rintro rfl; rw [hfree] at hL; cases hL
  have hle := le_upd (L := ⟨L.b, L.o + off, cap + L.tl - (len + n), undef⟩) hfree
  have ho1 := Rs_length hro
  have hn1 := Rs_length hrn
  have hobj : ObjC (upd ρ s.next ⟨L.b, L.o + off, cap + L.tl - (len + n), undef⟩) (w.setCells L.b (L.o + off + len * sz) news) ⟨L.b, L.o + off, cap + L.tl - (len + n), undef⟩ (.row el (old ++ new).length (Tr.ofList (old ++ new)) (some sz)) := by
    refine ⟨c', fr, hb', ⟨fun i hi => hfr.1 i (by omega), by simp⟩, fun i v hv => ?_, ?_⟩
    · rw [Tr.get_ofList] at hv
      dsimp only
      rw [hg']
      by_cases hi : i < old.length
      · rw [List.getElem?_append_left hi] at hv
        obtain ⟨y, hy, hry⟩ := Rs_get hro hv
        refine ⟨y, ?_, R_mono hle _ _ hry⟩
        rw [if_neg (by omega)]
        have := hcell i y hy
        rw [addr_add, cell_of_row w _ _ _ _ _ hb] at this
        rw [← Nat.add_assoc] at this
        exact this
      · rw [List.getElem?_append_right (by omega)] at hv
        obtain ⟨y, hy, hry⟩ := Rs_get hrn hv
        have hlt := (List.getElem?_eq_some_iff.1 hv).1
        refine ⟨y, ?_, R_mono hle _ _ hry⟩
        rw [if_pos (by omega), show L.o + off + i - (L.o + off + len * sz) = i - old.length from by omega]
        exact hy
    · simp only [List.length_append]
      omega
  refine ⟨⟨?_, ?_⟩, ⟨r1, r2, r3, by rw [r4]; exact Nat.le_refl _, by simp [newRow], ?_, ?_, ?_, ?_⟩, ?_, ?_⟩
  · intro j o hj
    simp only [newRow, Tr.get_set, Tr.get_del] at hj
    by_cases e : j = s.next
    · subst e
      rw [if_pos rfl] at hj; cases hj
      exact ⟨_, upd_same _ _ _, hobj⟩
    · rw [if_neg e] at hj
      split at hj
      · cases hj
      · rename_i hji
        obtain ⟨L', h1, h2⟩ := hc.obj j o hj
        refine ⟨L', by rw [upd_other _ _ e]; exact h1, ObjC_mono hle (ObjC_same h2 (hother _ fun hb => hji ?_))⟩
        exact (hc.inj id j _ o L L' hg hj rfl hL h1 hb.symm).symm
  · intro j j' o1 o2 L1 L2 h1 h2 hown hl1 hl2 hbb
    simp only [newRow, Tr.get_set, Tr.get_del] at h1 h2
    by_cases e : j = s.next
    · by_cases e' : j' = s.next
      · rw [e, e']
      · subst e
        rw [upd_same] at hl1; cases hl1
        rw [if_neg e'] at h2
        rw [upd_other _ _ e'] at hl2
        split at h2
        · cases h2
        · rename_i hji
          exact absurd (hc.inj id j' _ o2 L L2 hg h2 rfl hL hl2 hbb).symm hji
    · rw [if_neg e] at h1
      rw [upd_other _ _ e] at hl1
      split at h1
      · cases h1
      · rename_i hji
        by_cases e' : j' = s.next
        · subst e'
          rw [upd_same] at hl2; cases hl2
          exact absurd (hc.inj j id o1 _ L1 L h1 hg hown hl1 hL hbb) hji
        · rw [if_neg e'] at h2
          rw [upd_other _ _ e'] at hl2
          split at h2
          · cases h2
          · exact hc.inj j j' o1 o2 L1 L2 h1 h2 hown hl1 hl2 hbb
  · intro b hb2 hn2
    exact hother b fun e => hn2 ⟨id, _, L, hg, rfl, hL, e.symm⟩
  · intro b hb2 ho
    obtain ⟨j, o, L', h1, h2, h3, h4⟩ := ho
    simp only [newRow, Tr.get_set, Tr.get_del] at h1
    by_cases e : j = s.next
    · subst e
      rw [upd_same] at h3; cases h3
      exact ⟨id, _, L, hg, rfl, hL, h4⟩
    · rw [if_neg e] at h1
      rw [upd_other _ _ e] at h3
      split at h1
      · cases h1
      · exact ⟨j, o, L', h1, h2, h3, h4⟩
  · intro b hb2 ho
    obtain ⟨j, o, L', h1, h3, h4⟩ := ho
    simp only [newRow, Tr.get_set, Tr.get_del] at h1
    by_cases e : j = s.next
    · subst e
      rw [upd_same] at h3; cases h3
      exact ⟨id, _, L, hg, hL, h4⟩
    · rw [if_neg e] at h1
      rw [upd_other _ _ e] at h3
      split at h1
      · cases h1
      · exact ⟨j, o, L', h1, h3, h4⟩
  · intro j hj
    exact upd_other _ _ (fun e => hj ⟨by omega, by simp [newRow, e]⟩)
  · intro j hj
    rw [cell_of_row w _ _ _ _ _ hb, Array.getElem?_eq_getElem (by omega)]; rfl
  · intro j hj
    have := hfr.1 (L.o + off + len * sz + j) (by omega)
    simp only [World.frozen?, hb]
    simpa using this

theorem srcCells_one {x : AV} {size n : Nat} {l : List AV} (h : srcCells s size n x = some l) : l.all AV.one = true := by
  unfold srcCells at h
  split at h
  · simp only [Option.some.injEq] at h; subst h; rfl
  · split at h
    · simp only [Option.some.injEq] at h; subst h; rfl
    · split at h
      · cases h
      · split at h
        · split at h
          · split at h
            · rename_i h1; simp only [Option.some.injEq] at h; subst h; exact h1
            · cases h
          · cases h
        · cases h
  · split at h
    · simp only [Option.some.injEq] at h; subst h
      rw [List.all_eq_true]
      intro z hz
      obtain ⟨b, _, rfl⟩ := List.mem_map.1 hz
      rfl
    · cases h
  · cases h
theorem snd_append {x y : Operand} {kx ky : KO} {t u el : TypeId} {size bytes : Nat} {z : List AV} (he : RE ρ e a) (hc : Conc ρ s w) (hop : o.op = .call { callee := .builtin .append, args := #[x, y], argTypes := #[t, u] }) (hx : cO x = some kx) (hy : cO y = some ky)
    (hu : P.underlying t = some (.slice el)) (huk : (∃ e', P.underlying u = some (.slice e')) ∨ P.underlying u = some .string) (hsz : szOf P el = some size) (hby : byOf P el = some bytes) (hz : zcells P el = some z) (hzl : z.length = size) (hs0 : 0 < size) (hb1 : bytes ≤ 1024)
    (h : evOp e s (.append el size bytes kx ky) = some (v, s')) (hf : Free ρ s s') : Good P (execOp a.eval o) ρ s w v s' := by
  have rx := R_opd he hx
  have ry := R_opd he hy
  have hb := run_builtinCall (P := P) (a := a) hop w
  obtain ⟨i, z', hi, hz', hr⟩ := zcells_spec hz
  obtain ⟨i2, hi2, rfl⟩ := byOf_spec hby
  rw [hi] at hi2; cases hi2
  obtain ⟨i3, hi3, rfl⟩ := szOf_spec hsz
  rw [hi] at hi3; cases hi3
  have hzs : z'.cells.size = i.size := by
    have := Rs_length (hr ρ)
    simp only [Array.length_toList] at this
    omega
  have hexec : ∀ r w', (Builtin.append_ #[t, u] o.type #[a.eval x, a.eval y]).run P w = .ok r w' → (execOp a.eval o).run P w = .ok (.value r) w' := by
    intro r w' hrun
    rw [hb]
    simp [builtin, hrun]
  simp only [evOp] at h
  split at h
  · cases h
  · rename_i n hn
    split at h
    · cases h
    · rename_i new hnew
      obtain ⟨news, hrn, hsrc⟩ := srcCells_spec (P := P) hc ry hn hnew huk
      have hnl : news.length = new.length := Rs_length hrn
      -- a new row
      have grow : ∀ (base : Option Addr) (len c : Nat) (old : List AV) (olds : List Value) (s1 : St), a.eval x = .slice base len c → Rs ρ old olds → olds.length = len * i.size →
          (Builtin.firstCells i.size len (.slice base len c)).run P w.drew = .ok olds.toArray w.drew → c < len + n → len + n ≤ 2 ^ 37 → Conc ρ s1 w → Chg ρ s w ρ s1 w → s1.next = s.next → ρ s.next = none →
          Good P (execOp a.eval o) ρ s w (.sl s.next 0 (len + n) (len + n) true) (newRow s1 el (old ++ new) (some i.size)) := by
        intro base len c old olds s1 hxe hro holl hfirst hlt hle hc1 hch1 hnx hfree
        have hbytes : (len + n) * i.bytes ≤ 140737488355328 := by
          have h1 : (len + n) * i.bytes ≤ 2 ^ 37 * 1024 := Nat.mul_le_mul hle hb1
          omega
        have hrun := run_append_grow_src (P := P) w t u o.type el i z' hu hi hz' base len c olds hfirst (a.eval y) n news hsrc hlt (by omega) (growslice_fits hlt hbytes)
        have hge := grownCap_ge w (len + n) c el
        obtain ⟨g1, g2⟩ := good_new_open (ρ := ρ) (s := s1) (w := w) hc1 (by rw [hnx]; exact hfree) el (old ++ new) (olds ++ news) (Rs_append hro hrn) (Builtin.zeroCells z'.cells (grownCap w (len + n) c el - (len + n))) i.size (grownCap w (len + n) c el - (len + n))
          (by rw [size_zeroCells, hzs]) (0, 0) (fun i _ => by omega)
        refine ⟨.slice (some ⟨w.heap.size, 0, none⟩) (len + n) (grownCap w (len + n) c el), _, _, .value _, hexec _ _ (by rw [hxe]; exact hrun), .inl rfl, ?_, g1.heap (w' := w.drew.alloc _) rfl, hch1.trans (g2.heap (w2 := w.drew.alloc _) rfl rfl rfl rfl)⟩
        rw [hnx]
        simp only [R, upd_same, if_true]
        refine ⟨_, _, rfl, ?_, .inr rfl⟩
        congr 1
        dsimp only
        omega
      split at h
      · rename_i hxv
        rw [hxv] at rx
        simp only [R] at rx
        split at h
        · rename_i hn0
          simp only [Option.some.injEq, Prod.mk.injEq] at h; obtain ⟨rfl, rfl⟩ := h
          subst hn0
          refine Good.pure (x := .slice none 0 0) hc (by simp [R]) (hexec _ _ ?_)
          have hl := hsrc.len w
          have hcl := hsrc.cells
          rw [rx]
          rcases hsrc.kind with ⟨e', hk⟩ | hk <;> simp [Builtin.append_, run_underlying hu, run_underlying hk, sizeOf, typeInfo, hi, hl, hcl]
        · rename_i hn0
          split at h
          · rename_i hle
            simp only [Option.some.injEq, Prod.mk.injEq] at h; obtain ⟨rfl, rfl⟩ := h
            have := grow none 0 0 [] [] s rx (by simp [Rs]) (by simp) (by simp [Builtin.firstCells]) (by omega) (by omega) hc (Chg.refl ρ s w) rfl (hf s.next (Nat.le_refl _) (by simp [newRow]))
            simpa using this
          · cases h
      · rename_i id off len cap op hxv
        rw [hxv] at rx
        simp only [R] at rx
        obtain ⟨L, ad, hL, hxe, had⟩ := rx
        split at h
        · rename_i hroom
          split at h
          · rename_i t' m cs op' hg
            split at h
            · rename_i hfit
              simp only [Option.some.injEq, Prod.mk.injEq] at h; obtain ⟨rfl, rfl⟩ := h
              have hnl2 : new.length = n * i.size := by rw [← hnl]; exact hsrc.newsLen
              obtain ⟨w', hst, hc', hch⟩ := run_storeAll P hc hg hL (k := off + len * i.size) (l := new) hrn (srcCells_one hnew) (by rw [hnl2, Nat.add_assoc, ← Nat.add_mul]; exact hfit)
              have hroom' : len + n ≤ cap + if op then L.tl else 0 := by omega
              refine ⟨.slice (some ad) (len + n) (cap + if op then L.tl else 0), ρ, w', .value _, hexec _ _ ?_, .inl rfl, ?_, hc', hch⟩
              · have hl := hsrc.len w
                have hcl := hsrc.cells
                rw [hxe]
                by_cases h0 : cap + (if op then L.tl else 0) = 0
                · have hn0 : news = [] := List.eq_nil_of_length_eq_zero (by rw [hsrc.newsLen]; have : n = 0 := by omega
                                                                            simp [this])
                  subst hn0
                  have hw : w' = w := by
                    simp only [storeCells, Sem.run_pure, Result.ok.injEq, true_and] at hst
                    exact hst.symm
                  subst hw
                  rcases hsrc.kind with ⟨e', hk⟩ | hk <;> simp [Builtin.append_, run_underlying hu, run_underlying hk, sizeOf, typeInfo, hi, hl, hcl, hroom', storeCells]
                · have had' : ad = ⟨L.b, L.o + off, none⟩ := had.resolve_left h0
                  subst had'
                  rcases hsrc.kind with ⟨e', hk⟩ | hk <;> simp [Builtin.append_, run_underlying hu, run_underlying hk, sizeOf, typeInfo, hi, hl, hcl, hroom', addr_add, hst]
              · simp only [R]; exact ⟨L, ad, hL, rfl, had⟩
            · cases h
          · cases h
        · rename_i hroom
          split at h
          · cases h
          · rename_i cs hcs
            split at h
            · cases h
            · rename_i old hold
              split at h
              · rename_i hle
                have hfirst : ∃ olds : List Value, Rs ρ old olds ∧ olds.length = len * i.size ∧ (∀ c w', w'.heap = w.heap → (Builtin.firstCells i.size len (.slice (some ad) len c)).run P w' = .ok olds.toArray w') ∧
                    (cap + (if op then L.tl else 0) ≠ 0 → ∀ j u, olds[j]? = some u → w.cell? ((⟨L.b, L.o + off, none⟩ : Addr).add j) = some u) := by
                  obtain ⟨xs, q1, q2, q3⟩ := csOf_cells hc hcs hL hold
                  by_cases h0 : cap + (if op then L.tl else 0) = 0
                  · have hl0 : len = 0 := by omega
                    subst hl0
                    have : xs = [] := List.eq_nil_of_length_eq_zero (by simpa using q1)
                    subst this
                    exact ⟨[], q2, by simp, fun c w' _ => by simp [Builtin.firstCells, loadCells, loadCellsFrom], fun h => absurd h0 h⟩
                  · have had' : ad = ⟨L.b, L.o + off, none⟩ := had.resolve_left h0
                    subst had'
                    refine ⟨xs, q2, q1, fun c w' hw' => run_firstCells_some w' i.size len _ len c xs q1 (fun j u hj => ?_), fun _ => q3⟩
                    have := q3 j u hj
                    simpa [World.cell?, hw'] using this
                obtain ⟨olds, hro, holl, hfc, hcell⟩ := hfirst
                split at h
                · simp only [Option.some.injEq, Prod.mk.injEq] at h; obtain ⟨rfl, rfl⟩ := h
                  simp only [Bool.false_eq_true, if_false, Nat.add_zero] at hxe
                  exact grow (some ad) len cap old olds s hxe hro holl (hfc _ _ rfl) (by omega) hle.2 hc (Chg.refl ρ s w) rfl (hf s.next (Nat.le_refl _) (by simp [newRow]))
                · rename_i t' m cs' sz hg
                  split at h
                  · rename_i hcond
                    obtain ⟨rfl, rfl, hm⟩ := hcond
                    simp only [Option.some.injEq, Prod.mk.injEq] at h; obtain ⟨rfl, rfl⟩ := h
                    have hfree : ρ s.next = none := hf s.next (Nat.le_refl _) (by simp [newRow])
                    by_cases hin : len + n ≤ cap + L.tl
                    · -- there is room in the spare
                      simp only [if_true] at hxe had hcell
                      have had' : ad = ⟨L.b, L.o + off, none⟩ := had.resolve_left (by omega)
                      subst had'
                      obtain ⟨g1, g2, g3, g4⟩ := good_spare (old := old) (new := new) hc hfree hg hL hm hro holl (hcell (by omega)) hrn hsrc.newsLen hle.1 hin
                      have hrun := run_append_room_src (P := P) w t u o.type t' i hu hi L.b (L.o + off) len (cap + L.tl) (a.eval y) n news hsrc hin g3 g4
                      refine ⟨_, _, _, .value _, hexec _ _ (by rw [hxe]; exact hrun), .inl rfl, ?_, g1, g2⟩
                      simp only [R, upd_same, if_true]
                      refine ⟨_, _, rfl, ?_, .inr rfl⟩
                      congr 1
                      dsimp only
                      omega
                    · simp only [if_true] at hxe
                      exact grow (some ad) len (cap + L.tl) old olds { s with heap := s.heap.del id } hxe hro holl (hfc _ _ rfl) (by omega) hle.2 (hc.del id) (Chg.del id) rfl hfree
                  · cases h
                · cases h
              · cases h
      · cases h
end
end Go.Av
