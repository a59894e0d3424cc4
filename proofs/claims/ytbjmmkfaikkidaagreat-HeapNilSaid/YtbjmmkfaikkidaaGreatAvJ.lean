/- The operations of the abstract run are true words of the model's, part 7. Generic: no program in it. -/
import Derived.Test.YtbjmmkfaikkidaaGreatAvI
set_option linter.constructorNameAsVariable false
set_option linter.unusedVariables false
set_option linter.unusedSimpArgs false
namespace Go.Av
open Go.RowKit

theorem Conc.heap {ρ : Rn} {s : St} {w w' : World} (hc : Conc ρ s w) (h : w'.heap = w.heap) : Conc ρ s w' where
  obj id o hg := by
    obtain ⟨L, h1, h2⟩ := hc.obj id o hg
    exact ⟨L, h1, ObjC_same h2 (by rw [h])⟩
  inj := hc.inj
theorem Chg.heap {ρ ρ' : Rn} {s s' : St} {w w1 w2 : World} (hc : Chg ρ s w ρ' s' w1) (h : w2.heap = w1.heap) (h1 : w2.os = w1.os) (h2 : w2.tape = w1.tape) (h3 : w2.output = w1.output) : Chg ρ s w ρ' s' w2 where
  os := h1.trans hc.os
  tape := h2.trans hc.tape
  output := h3.trans hc.output
  size := by rw [h]; exact hc.size
  next := hc.next
  same b hb hn := by rw [h]; exact hc.same b hb hn
  own := hc.own
  live := hc.live
  out := hc.out

section
variable {P : Program} {ρ : Rn} {e : Env} {a : Act} {s : St} {w : World} {o : Oper} {k : KOp} {v : AV} {s' : St}

/-- a new row with a spare -/
theorem good_new_open (hc : Conc ρ s w) (hf : ρ s.next = none) (t : Nat) (l : List AV) (xs : List Value) (hr : Rs ρ l xs) (sp : Array Value) (sz tl : Nat) (hsp : sp.size = tl * sz) (fr : Nat × Nat) (hfr : ∀ i, i < xs.length + sp.size → ¬ (fr.1 ≤ i ∧ i < fr.2)) :
    Conc (upd ρ s.next ⟨w.heap.size, 0, tl, undef⟩) (newRow s t l (some sz)) (w.alloc (.cells ((⟨xs⟩ : Array Value) ++ sp) t fr)) ∧
    Chg ρ s w (upd ρ s.next ⟨w.heap.size, 0, tl, undef⟩) (newRow s t l (some sz)) (w.alloc (.cells ((⟨xs⟩ : Array Value) ++ sp) t fr)) := by
  have hlen := Rs_length hr
  refine ⟨hc.alloc hf (.cells ((⟨xs⟩ : Array Value) ++ sp) t fr) ⟨w.heap.size, 0, tl, undef⟩ rfl _ ?_, Chg.alloc hc (.cells ((⟨xs⟩ : Array Value) ++ sp) t fr) ⟨w.heap.size, 0, tl, undef⟩ rfl _⟩
  refine ⟨_, fr, heap_alloc_new w _, ⟨fun i hi => hfr i (by simpa using hi), by simp⟩, fun i v hv => ?_, by simp [hlen, hsp]⟩
  rw [Tr.get_ofList] at hv
  obtain ⟨y, hy, hry⟩ := Rs_get hr hv
  refine ⟨y, ?_, hry⟩
  simp only [Nat.zero_add]
  rw [Array.getElem?_append_left (by simpa using (List.getElem?_eq_some_iff.1 hy).1)]
  simpa using hy

theorem bytesOfCells_spec : ∀ {l : List AV} {bs : List UInt8}, bytesOfCells l = some bs → ∃ ns : List Int, l = ns.map (AV.i .u8) ∧ bs = ns.map (fun n => UInt8.ofNat n.toNat)
  | [], bs, h => by simp only [bytesOfCells, Option.some.injEq] at h; subst h; exact ⟨[], rfl, rfl⟩
  | .i .u8 n :: r, bs, h => by
    simp only [bytesOfCells] at h
    split at h
    · rename_i l' hl'
      simp only [Option.some.injEq] at h; subst h
      obtain ⟨ns, rfl, rfl⟩ := bytesOfCells_spec hl'
      exact ⟨n :: ns, rfl, rfl⟩
    · cases h
  | .i .i8 _ :: _, _, h | .i .i16 _ :: _, _, h | .i .i32 _ :: _, _, h | .i .i64 _ :: _, _, h | .i .u16 _ :: _, _, h | .i .u32 _ :: _, _, h | .i .u64 _ :: _, _, h => by simp [bytesOfCells] at h
  | .b _ :: _, _, h | .s _ :: _, _, h | .p0 :: _, _, h | .p .. :: _, _, h | .sl0 :: _, _, h | .sl .. :: _, _, h | .m0 :: _, _, h | .m _ :: _, _, h | .f0 :: _, _, h | .f .. :: _, _, h | .n0 :: _, _, h | .ifc .. :: _, _, h | .ag _ :: _, _, h | .tu _ :: _, _, h => by
    simp [bytesOfCells] at h
theorem Rs_ints {ns : List Int} {xs : List Value} (h : Rs ρ (ns.map (AV.i .u8)) xs) : xs = ns.map (Value.int .u8) := by
  induction ns generalizing xs with
  | nil => simpa [Rs] using h
  | cons n r ih =>
    simp only [List.map_cons, Rs] at h
    obtain ⟨y, t, rfl, h1, h2⟩ := h
    rw [Ri h1, ih h2]; rfl
theorem foldl_push (ns : List Int) : ∀ (b : ByteArray), ns.foldl (fun r n => r.push (UInt8.ofNat n.toNat)) b = ⟨⟨b.data.toList ++ ns.map (fun n => UInt8.ofNat n.toNat)⟩⟩ := by
  induction ns with
  | nil => intro b; apply ByteArray.ext; apply Array.ext'; simp
  | cons n r ih =>
    intro b
    simp only [List.foldl_cons, ih, List.map_cons]
    apply ByteArray.ext; apply Array.ext'
    simp [ByteArray.push]

theorem snd_convert {t u : TypeId} {x : Operand} (he : RE ρ e a) (hc : Conc ρ s w) (hop : o.op = .convert t u x) (hk : cOp P o = some k) (h : evOp e s k = some (v, s')) (hf : Free ρ s s') : Good P (execOp a.eval o) ρ s w v s' := by
  simp only [cOp, hop] at hk
  split at hk
  · rename_i k1 k2 kx h1 h2 hx
    simp only [Option.some.injEq] at hk; subst hk
    have rx := R_opd he hx
    simp only [evOp] at h
    split at h
    · rename_i k3 n hv
      simp only [Option.some.injEq, Prod.mk.injEq] at h; obtain ⟨rfl, rfl⟩ := h
      rw [hv] at rx
      exact Good.pure (x := .int k2 (k2.wrap n)) hc (by simp [R]) (by simp [execOp, hop, Ri rx, convert, run_underlying h1, run_underlying h2, Conv.intToInt])
    · cases h
  · rename_i k1 k2 kx h1 h2 hx
    simp only [Option.some.injEq] at hk; subst hk
    have rx := R_opd he hx
    simp only [evOp] at h
    split at h
    · rename_i k3 n hv
      simp only [Option.some.injEq, Prod.mk.injEq] at h; obtain ⟨rfl, rfl⟩ := h
      rw [hv] at rx
      exact Good.pure (x := .float k2 (k2.nearest n)) hc (by simp [R]) (by simp [execOp, hop, Ri rx, convert, run_underlying h1, run_underlying h2, Conv.intToFloat])
    · cases h
  · rename_i kx h1 h2 hx
    simp only [Option.some.injEq] at hk; subst hk
    have rx := R_opd he hx
    simp only [evOp] at h
    split at h
    · rename_i l hv
      simp only [Option.some.injEq, Prod.mk.injEq] at h; obtain ⟨rfl, rfl⟩ := h
      rw [hv] at rx
      exact Good.pure (x := .string ⟨⟨l⟩⟩) hc (by simp [R]) (by simp [execOp, hop, Rstr rx, convert, run_underlying h1, run_underlying h2])
    · cases h
  · rename_i el kx h1 h2 hx
    split at hk
    · rename_i hel
      simp only [Option.some.injEq] at hk; subst hk
      have rx := R_opd he hx
      simp only [evOp] at h
      split at h
      · rename_i l hv
        split at h
        · rename_i hle
          simp only [Option.some.injEq, Prod.mk.injEq] at h; obtain ⟨rfl, rfl⟩ := h
          rw [hv] at rx
          have hsz : (ByteArray.mk ⟨l⟩).size = l.length := rfl
          have hcap := grownCap_ge w l.length 0 el
          have hfree := hf s.next (Nat.le_refl _) (by simp [newRow])
          have hlr : Rs ρ (l.map fun b => AV.i .u8 b.toNat) (l.map fun b => Value.int .u8 b.toNat) := by
            clear hv rx hle hsz hcap hf hfree
            induction l with
            | nil => simp [Rs]
            | cons b r ih => simp only [List.map_cons, Rs]; exact ⟨_, _, rfl, by simp [R], ih⟩
          obtain ⟨g1, g2⟩ := good_new_open hc hfree el _ _ hlr (Array.replicate (grownCap w l.length 0 el - l.length) (.int .u8 0)) 1 (grownCap w l.length 0 el - l.length) (by simp)
            (grownCap w l.length 0 el, grownCap w l.length 0 el + 1) (by intro i hi; simp at hi; omega)
          have hrun := run_bytes_of_string (P := P) w t u el ⟨⟨l⟩⟩ h1 h2 hel
          rw [hsz] at hrun
          have hrow : bytesRow ⟨⟨l⟩⟩ (grownCap w l.length 0 el) = (⟨l.map fun b => Value.int .u8 b.toNat⟩ : Array Value) ++ Array.replicate (grownCap w l.length 0 el - l.length) (.int .u8 0) := by
            apply Array.ext'
            simp [bytesRow, hsz]
          have hrs : (bytesRow ⟨⟨l⟩⟩ (grownCap w l.length 0 el)).size = grownCap w l.length 0 el := by rw [hrow]; simp; omega
          rw [hrs, hrow] at hrun
          refine ⟨.slice (some ⟨w.heap.size, 0, none⟩) l.length (grownCap w l.length 0 el), _, _, .value _, ?_, .inl rfl, ?_, g1.heap (w' := (w.drew.alloc _)) rfl, g2.heap (w2 := (w.drew.alloc _)) rfl rfl rfl rfl⟩
          · simp only [execOp, hop, Rstr rx, Sem.run_bind, hrun, Result.andThen_ok, Sem.run_pure]
          · simp only [R, upd_same, if_true]
            refine ⟨_, _, rfl, ?_, .inr rfl⟩
            simp; omega
        · cases h
      · cases h
    · cases hk
  · rename_i el kx h1 h2 hx
    split at hk
    · rename_i hel
      simp only [Option.some.injEq] at hk; subst hk
      have rx := R_opd he hx
      simp only [evOp] at h
      split at h
      · rename_i hv
        simp only [Option.some.injEq, Prod.mk.injEq] at h; obtain ⟨rfl, rfl⟩ := h
        rw [hv] at rx
        simp only [R] at rx
        refine Good.pure (x := .string ⟨⟨[]⟩⟩) hc (by simp [R]) ?_
        simp [execOp, hop, rx, convert, run_underlying h1, run_underlying h2, run_underlying hel, Conv.bytesToString]
        rfl
      · rename_i id off n cap op hv
        rw [hv] at rx
        simp only [R] at rx
        obtain ⟨L, ad, hL, hx', had⟩ := rx
        split at h
        · rename_i hn0
          simp only [Option.some.injEq, Prod.mk.injEq] at h; obtain ⟨rfl, rfl⟩ := h
          subst hn0
          refine Good.pure (x := .string ⟨⟨[]⟩⟩) hc (by simp [R]) ?_
          have hl : (loadCells ad 0).run P w = .ok (([] : List Int).map (Value.int .u8)).toArray w := rfl
          have := run_bytesToString (P := P) w ad 0 (cap + if op then L.tl else 0) [] hl
          simp only [execOp, hop, hx', convert, Sem.run_bind, run_underlying h1, run_underlying h2, run_underlying hel, Result.andThen_ok, this]
          simp
          rfl
        · split at h
          · cases h
          · rename_i hn0 hcap
            have had' : ad = ⟨L.b, L.o + off, none⟩ := had.resolve_left (by omega)
            subst had'
            split at h
            · rename_i cs hcs
              split at h
              · rename_i l hl
                split at h
                · rename_i bs hbs
                  simp only [Option.some.injEq, Prod.mk.injEq] at h; obtain ⟨rfl, rfl⟩ := h
                  obtain ⟨xs, q1, q2, q3⟩ := csOf_cells hc hcs hL hl
                  obtain ⟨ns, rfl, rfl⟩ := bytesOfCells_spec hbs
                  have hxs := Rs_ints q2
                  have hload := run_loadCells_list (P := P) (w := w) ⟨L.b, L.o + off, none⟩ xs q3
                  rw [q1, hxs] at hload
                  have := run_bytesToString (P := P) w _ n (cap + if op then L.tl else 0) ns hload
                  refine Good.pure (x := .string ⟨⟨ns.map (fun n => UInt8.ofNat n.toNat)⟩⟩) hc (by simp [R]) ?_
                  simp only [execOp, hop, hx', convert, Sem.run_bind, run_underlying h1, run_underlying h2, run_underlying hel, Result.andThen_ok, this]
                  simp only [Sem.run_pure, Result.ok.injEq, Next.value.injEq, Value.string.injEq, and_true]
                  rw [foldl_push]; rfl
                · cases h
              · cases h
            · cases h
      · cases h
    · cases hk
  · cases hk
end
end Go.Av
