/- heirloomlaw14.HeapNil, whatever its three arguments: it returns true, and every argument reads afterwards as it read before. No condition. -/
import Derived.Test.YtbjmmkfaikkidaaGreatRows
import Derived.Test.YtbjmmkfaikkidaaGreatNilRun
import Derived.Lib.SmallJoins
import Derived.ChangeMaps5
namespace Go.Proofs.YtbjmmkfaikkidaaGreat
open Go.ChangeShapes Go.WideShapes Go.ChangeAt Go.RowKit Go.Joins

theorem nil_own : ownKnob Tryz.prog.godebug = none := by kernel_rfl
theorem nil_mixed : Tryz.prog.follows .mixedOrders = true := by kernel_rfl
theorem nil_results : Tryz.f9.resultTypes = #[4] := by kernel_rfl
theorem nil_cells : Tryz.prog.cellsOf 28 = 2 := by kernel_rfl

/-- what was reads as it did; new blocks may stand behind -/
theorem post_of_old {H : Type} {enc : TypeId × Value → H} {P : Program} {f : Func} {s : ChangeSpec} {apart fresh handsOn again : Bool} {W W' : World} {args : Array Value} {v : Value} {ds gs : List (DataW H)} {before pa pv : List MemPlace}
    (hW : DataW.Whole enc P f.params.toList s.vars apart W args.toList ds gs before)
    (hres : ∀ (b : Nat) (sp : Nat → Bool) (hd : Bool), DataW.TrodAll enc P W' b sp hd f.resultTypes.toList (v.resultList f.resultTypes.size) (s.fn H (ds ++ gs)).results [])
    (hargs : ∀ sp : Nat → Bool, (∀ p ∈ before, sp p.block = true) → DataW.TrodAll enc P W' 0 sp true f.params.toList args.toList (s.fn H (ds ++ gs)).args pa)
    (hvars : ∀ sp : Nat → Bool, (∀ p ∈ before, sp p.block = true) → DataW.TrodVars enc P W' sp s.vars (s.fn H (ds ++ gs)).vars pv)
    (hps : before = pa ++ pv) (hos : W'.os = W.os) (hout : W'.output = W.output) (hold : ∀ b, b < W.heap.size → W'.heap[b]? = W.heap[b]?)
    (hok : ∀ (j : Nat) (t : TypeId) (r : Value), f.resultTypes[j]? = some t → (v.resultList f.resultTypes.size)[j]? = some r → Value.okWide P W' .any 0 t r) :
    s.post enc P f apart fresh handsOn again W args v W' := by
  have hlt : ∀ p ∈ before, (fun b => decide (b < W.heap.size)) p.block = true := fun p hp => by simpa using hW.lt p hp
  have hltb := hW.lt
  refine ⟨ds, gs, before, [], pa, pv, hW, hres _ _ _, hargs _ hlt, hvars _ hlt, ⟨hos, hout, fun i hi => ?_⟩, fun _ => ?_⟩
  · rw [hold i hi]
    split
    · rename_i c t fr c' t' fr' h1 h2
      rw [h1] at h2; simp only [Option.some.injEq, Obj.cells.injEq] at h2
      obtain ⟨rfl, rfl, rfl⟩ := h2
      exact ⟨rfl, rfl, rfl, fun _ _ => rfl⟩
    · rename_i h1 h2
      rw [h1] at h2; simp only [Option.some.injEq, Obj.map.injEq] at h2
      exact .inr ⟨h2.1.symm, h2.2.symm⟩
    · rfl
  · obtain ⟨_, _, _, _, _, hz, hn⟩ := hW
    refine ⟨hok, _, _, ([] ++ pa) ++ pv, ⟨[] ++ pa, pv, trodAll_append (hargs _ (fun _ _ => rfl)) (hres _ _ _), hvars _ (fun _ _ => rfl), rfl, ?_, ?_⟩, ?_⟩
    · intro b off hp
      have hp' : MemPlace.cell b off ∈ before := by rw [hps]; simpa using hp
      have hb : b < W.heap.size := hltb _ hp'
      have : W'.frozen? ⟨b, off, none⟩ = W.frozen? ⟨b, off, none⟩ := by unfold World.frozen?; simp only; rw [hold b hb]
      rw [this]
      exact hz b off hp'
    · intro ha
      have := hn ha
      rw [hps] at this
      simpa using this
    · intro p hp _
      rw [hps]
      simpa using hp

open Go.Av in
/-- the walk: whatever stands in memory -/
theorem nil_walk (h T N : Int) (t : ByteArray) (W : World) : Calls Tryz.prog 9 #[.int .i64 h, .agg #[.int .i64 T, .int .i64 N], .string t] W (fun e W' => e = .returned (.bool true) ∧ W'.os = W.os ∧ W'.output = W.output ∧ ∀ b, b < W.heap.size → W'.heap[b]? = W.heap[b]?) := by
  obtain ⟨s', hs⟩ := isTrue_iff nil_run
  let val : Nat → Option Value := fun id => match id with
    | 0 => some (.int .i64 h)
    | 1 => some (.int .i64 T)
    | 2 => some (.int .i64 N)
    | 3 => some (.string t)
    | _ => none
  let ρ : Rn := fun id => (val id).map fun v => ⟨0, 0, 0, v⟩
  have hc := calls_of (cxOf_ok nil_mixed) hs (ρ := ρ) (w := W) (args := [.int .i64 h, .agg #[.int .i64 T, .int .i64 N], .string t]) (m := 0)
    ⟨_, _, rfl, ⟨_, rfl, rfl, .inl ⟨_, _, rfl⟩⟩, _, _, rfl, ⟨_, rfl, _, _, rfl, ⟨_, rfl, rfl, .inl ⟨_, _, rfl⟩⟩, _, _, rfl, ⟨_, rfl, rfl, .inl ⟨_, _, rfl⟩⟩, rfl⟩, _, _, rfl, ⟨_, rfl, rfl, .inr ⟨_, rfl⟩⟩, rfl⟩
    ⟨fun id o h => (by cases h), fun id id' o o' L L' h => (by cases h)⟩ (fun id h1 _ => by
      obtain ⟨k, rfl⟩ : ∃ k, id = k + 4 := ⟨id - 4, by simp only at h1; omega⟩
      rfl)
  refine (callsIn_wide.1 hc).mono ?_
  rintro e W' ⟨x, ρ', rfl, hr, hc', hch⟩
  simp only [R] at hr
  subst hr
  exact ⟨rfl, hch.os, hch.output, fun b hb => hch.same b hb (by rintro ⟨id, o, L, h, _⟩; cases h)⟩

set_option maxRecDepth 100000 in
theorem heapNil_lifted (os : Os) (started : os.Started) (H : Type) (enc : TypeId × Value → H) :
    ReturnsInHanded {} Tryz.checked os 9 .any (Rows.heapNilSpec.pre6 enc Tryz.prog Tryz.f9 Rows.heapNilRow.domain false) (Rows.heapNilSpec.post enc Tryz.prog Tryz.f9 false true false false) := by
  refine returnsInHanded_of_change (C := Tryz.checked) nil_own started (by kernel_rfl) Tryz.func9
    (ChangeSpec.witness6 (enc := enc) (C := Tryz.checked) false ⟨#[], #[.int .i64 0, .agg #[.int .i64 0, .int .i64 0], .string ⟨#[]⟩], []⟩ 8 (by kernel_rfl) (by kernel_rfl) (by kernel_rfl) (by kernel_rfl)) ?_
  intro W base args ds gs before hval0 hW _ _
  have hval : ∀ (j : Nat) t v, Tryz.f9.params[j]? = some t → args[j]? = some v → Value.okWide Tryz.prog W .any base t v := hval0
  have hW' := hW
  obtain ⟨p, q, hA0, hV, rfl, _, _⟩ := hW
  have hA : DataW.TrodAll enc Tryz.prog W 0 (fun _ => true) true Tryz.f9.params.toList args.toList ds p := hA0
  rw [Tryz.params9] at hA hval
  obtain ⟨v0, v1, v2, d0, d1, d2, p0, p1, p2, rfl, rfl, rfl, h0, h1, h2⟩ := trodAll_three hA
  obtain ⟨rfl, rfl⟩ := trodVars_none hV
  obtain ⟨h, rfl, rfl, rfl, wh⟩ := open_int Tryz.underlying3 (hval 0 3 v0 rfl rfl) h0
  obtain ⟨c0, c1, y0, y1, m, rfl, rfl, rfl, hy0, hy1⟩ := open_agg2 Tryz.underlying28 (by kernel_rfl) nil_cells (hval 1 28 v1 rfl rfl) h1
  obtain ⟨t, rfl, rfl, rfl, wt⟩ := Go.ChangeMaps.open_string Tryz.underlying9 (hval 2 9 v2 rfl rfl) h2
  obtain ⟨T, e0, rfl, wT⟩ := DataW.trod_int Tryz.underlying3 hy0
  obtain ⟨N, e1, rfl, wN⟩ := DataW.trod_int Tryz.underlying2 hy1
  simp at e0 e1
  subst e0 e1
  clear hA0 hval0
  simp only [List.append_nil] at hW'
  have structReads : ∀ (W' : World) (sp : Nat → Bool), DataW.Trod enc Tryz.prog W' 0 sp true 28 (.agg #[.int .i64 T, .int .i64 N]) (.agg [.lit (.int .i64 T), .lit (.int .i64 N)]) [] := fun W' sp =>
    shut_agg2 (y0 := (.lit (.int .i64 T), [])) (y1 := (.lit (.int .i64 N), [])) Tryz.underlying28 (by kernel_rfl) nil_cells ⟨1, by simp [DataW.trod, Tryz.underlying3, wT]⟩ ⟨1, by simp [DataW.trod, Tryz.underlying2, wN]⟩
  have boolReads : ∀ (W' : World) (b : Nat) (sp : Nat → Bool) (hd : Bool), DataW.Trod enc Tryz.prog W' b sp hd 4 (.bool true) (.lit (.bool true)) [] := fun W' b sp hd => ⟨1, by simp [DataW.trod, Value.cells, Tryz.underlying4]⟩
  have boolOk : ∀ W' : World, Value.okWide Tryz.prog W' .any 0 4 (.bool true) := fun W' => by simp [Value.okWide, Tryz.underlying4, Cell.okWide, Cell.ok]
  refine (nil_walk h T N t W).mono fun e W' ⟨he, ho, hu, hold⟩ => ?_
  subst he
  exact ⟨_, rfl, post_of_old (pa := []) (pv := []) hW' (fun b sp hd => trodAll_mk1 (boolReads W' b sp hd))
    (fun sp _ => trodAll_mk3 (shut_int Tryz.underlying3 wh) (structReads _ sp) (Go.ChangeMaps.shut_string Tryz.underlying9 wt)) (fun _ _ => rfl) rfl ho hu hold
    (ok_one nil_results rfl (boolOk W'))⟩

theorem heapNil_holds : Rows.HeapNilSaid :=
  OpenClaim.holds_of_wide 9 Tryz.f9 rfl rfl rfl rfl rfl rfl rfl ⟨rfl, rfl, rfl, rfl, rfl⟩ rfl rfl rfl rfl rfl (by kernel_rfl) Tryz.func9 (by kernel_rfl)
    (of_decide_eq_true (by kernel_rfl)) (by unfold Func.isWrapper; rw [if_neg (by decide +kernel)]; exact ⟨rfl, rfl⟩)
    (fun os started H enc _ => heapNil_lifted os started H enc)
end Go.Proofs.YtbjmmkfaikkidaaGreat
