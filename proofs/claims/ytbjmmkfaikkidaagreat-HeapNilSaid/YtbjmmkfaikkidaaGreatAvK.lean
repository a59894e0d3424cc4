/- The operations of the abstract run are true words of the model's, part 8: built-in functions, maps. Generic: no program in it. -/
import Derived.Test.YtbjmmkfaikkidaaGreatAvJ
set_option linter.constructorNameAsVariable false
set_option linter.unusedVariables false
set_option linter.unusedSimpArgs false
namespace Go.Av
open Go.RowKit

section
variable {P : Program} {ρ : Rn} {e : Env} {a : Act} {s : St} {w : World} {o : Oper} {k : KOp} {v : AV} {s' : St}

theorem get_map {r : Nat} {es : Array MapEntry} {ck : Nat} (h : w.heap[r]? = some (.map es ck)) : (getObj r).run P w = .ok (.map es ck) w := by
  simp [getObj, Sem.run, h]
theorem set_map {r : Nat} {es : Array MapEntry} {ck : Nat} (O : Obj) (h : w.heap[r]? = some (.map es ck)) : (setObj r O).run P w = .ok () { w with heap := w.heap.setIfInBounds r O } := by
  simp [setObj, Sem.run, h]
theorem find_key {kt : TypeId} {d : TypeDesc} {u : Value} {l : List MapEntry} {r : Option (Nat × Value)} (hd : P.underlying kt = some d) (h : Instr.findNow d u l 0 = some r) (w : World) : (Instr.findKey kt u l).run P w = .ok r w := by
  simp [Instr.findKey, run_underlying hd, h]
theorem cOs_one {l : List Operand} {k : KO} (h : cOs l = some [k]) : ∃ x, l = [x] ∧ cO x = some k := by
  cases l with
  | nil => simp [cOs] at h
  | cons x r =>
    simp only [cOs] at h
    split at h
    · rename_i a l' h1 h2
      simp only [Option.some.injEq, List.cons.injEq] at h; obtain ⟨rfl, rfl⟩ := h
      cases r with
      | nil => exact ⟨x, rfl, h1⟩
      | cons y r => simp only [cOs] at h2; split at h2 <;> simp at h2
    · cases h
theorem cOs_two {l : List Operand} {k k' : KO} (h : cOs l = some [k, k']) : ∃ x y, l = [x, y] ∧ cO x = some k ∧ cO y = some k' := by
  cases l with
  | nil => simp [cOs] at h
  | cons x r =>
    simp only [cOs] at h
    split at h
    · rename_i a l' h1 h2
      simp only [Option.some.injEq, List.cons.injEq] at h; obtain ⟨rfl, rfl⟩ := h
      obtain ⟨y, rfl, hy⟩ := cOs_one h2
      exact ⟨x, y, rfl, h1, hy⟩
    · cases h
theorem run_builtinCall {b : Builtin} {args : Array Operand} {ts : Array TypeId} (hop : o.op = .call { callee := .builtin b, args := args, argTypes := ts }) (w : World) :
    (execOp a.eval o).run P w = (builtin b ts o.type (args.map fun | .const _ => true | _ => false) (args.map a.eval)).run P w := by
  simp [execOp, hop, resolve, invoke]
  rfl

theorem mmF_sound (hr2 : ∀ {k : IntKind} {n : Int} {x : Value}, R ρ (.i k n) x → x = .int k n) (mx : Bool) : ∀ (l : List AV) (v : AV) (xs : List Value) (x : Value) (r : AV), Rs ρ l xs → R ρ v x → mmF mx v l = some r →
    ∃ y, (xs.foldlM (if mx then Builtin.max2 else Builtin.min2) x).run P w = .ok y w ∧ R ρ r y
  | [], v, xs, x, r, hl, hv, h => by
    simp only [mmF, Option.some.injEq] at h; subst h
    simp only [Rs] at hl; subst hl
    exact ⟨x, rfl, hv⟩
  | b :: l, v, xs, x, r, hl, hv, h => by
    unfold mmF at h
    split at h
    · rename_i h1; cases h1
    · rename_i k p j q l' h1
      cases h1
      simp only [Rs] at hl
      obtain ⟨y, ys, rfl, hy, hys⟩ := hl
      rw [hr2 hv, hr2 hy]
      obtain ⟨z, hz, hrz⟩ := mmF_sound hr2 mx l _ ys (.int k (if mx then (if q > p then q else p) else (if q < p then q else p))) r hys (by simp [R]) h
      refine ⟨z, ?_, hrz⟩
      cases mx <;> simp_all [List.foldlM_cons, Builtin.max2, Builtin.min2]
    · cases h

theorem snd_min {args : Array Operand} {ts : Array TypeId} {l : List KO} (he : RE ρ e a) (hc : Conc ρ s w) (hop : o.op = .call { callee := .builtin .min, args := args, argTypes := ts }) (hl : cOs args.toList = some l) (h : evOp e s (.min l) = some (v, s')) : Good P (execOp a.eval o) ρ s w v s' := by
  have rl := Rs_opds he hl
  simp only [evOp] at h
  split at h
  · rename_i r hr
    simp only [Option.some.injEq, Prod.mk.injEq] at h; obtain ⟨rfl, rfl⟩ := h
    unfold mm at hr
    split at hr
    · cases hr
    · rename_i x xs hx
      rw [hx] at rl
      simp only [Rs] at rl
      obtain ⟨y, ys, hy, h1, h2⟩ := rl
      obtain ⟨z, hz, hrz⟩ := mmF_sound (P := P) (w := w) (fun h => Ri h) false _ _ _ _ _ h2 h1 hr
      refine Good.pure hc hrz ?_
      rw [run_builtinCall hop]
      have hargs : (args.map a.eval).toList = y :: ys := by rw [Array.toList_map]; exact hy
      simp only [Bool.false_eq_true, if_false] at hz
      simp [builtin, Builtin.min_, hy, hz]
  · cases h
theorem snd_max {args : Array Operand} {ts : Array TypeId} {l : List KO} (he : RE ρ e a) (hc : Conc ρ s w) (hop : o.op = .call { callee := .builtin .max, args := args, argTypes := ts }) (hl : cOs args.toList = some l) (h : evOp e s (.max l) = some (v, s')) : Good P (execOp a.eval o) ρ s w v s' := by
  have rl := Rs_opds he hl
  simp only [evOp] at h
  split at h
  · rename_i r hr
    simp only [Option.some.injEq, Prod.mk.injEq] at h; obtain ⟨rfl, rfl⟩ := h
    unfold mm at hr
    split at hr
    · cases hr
    · rename_i x xs hx
      rw [hx] at rl
      simp only [Rs] at rl
      obtain ⟨y, ys, hy, h1, h2⟩ := rl
      obtain ⟨z, hz, hrz⟩ := mmF_sound (P := P) (w := w) (fun h => Ri h) true _ _ _ _ _ h2 h1 hr
      refine Good.pure hc hrz ?_
      rw [run_builtinCall hop]
      simp only [if_true] at hz
      simp [builtin, Builtin.max_, hy, hz]
  · cases h

theorem R_len {x : AV} {u : Value} (hr : R ρ x u) {n : Nat} (h : lenV x = some n) (w : World) : (Builtin.lenOf u).run P w = .ok n w := by
  unfold lenV at h
  split at h
  · simp only [Option.some.injEq] at h; subst h; simp only [R] at hr; subst hr; rfl
  · simp only [Option.some.injEq] at h; subst h; simp only [R] at hr; obtain ⟨L, ad, _, rfl, _⟩ := hr; rfl
  · simp only [Option.some.injEq] at h; subst h; rw [Rstr hr]; rfl
  · cases h
theorem snd_len {x : Operand} {t : TypeId} {kx : KO} {kd : Nat} (he : RE ρ e a) (hc : Conc ρ s w) (hop : o.op = .call { callee := .builtin .len, args := #[x], argTypes := #[t] }) (hx : cO x = some kx)
    (ht : (P.underlying t = some .string ∧ kd = 0) ∨ (∃ el, P.underlying t = some (.slice el) ∧ kd = 1) ∨ ∃ y z, P.underlying t = some (.map y z) ∧ kd = 2) (h : evOp e s (.len kd kx) = some (v, s')) : Good P (execOp a.eval o) ρ s w v s' := by
  have rx := R_opd he hx
  have hb := run_builtinCall (P := P) (a := a) hop w
  rcases ht with ⟨hu, rfl⟩ | ⟨el, hu, rfl⟩ | ⟨y, z, hu, rfl⟩
  · simp only [evOp] at h
    split at h <;> rename_i h1 h2 <;> first | (cases h1; done) | skip
    · simp only [Option.some.injEq, Prod.mk.injEq] at h; obtain ⟨rfl, rfl⟩ := h
      rw [h2] at rx
      refine Good.pure (x := .int .i64 _) hc (by simp [R]; rfl) ?_
      rw [hb]
      simp [builtin, Builtin.len_, run_underlying hu, Rstr rx, goInt]
      rfl
    · cases h
  · simp only [evOp] at h
    split at h <;> rename_i h1 h2 <;> first | (cases h1; done) | skip
    · simp only [Option.some.injEq, Prod.mk.injEq] at h; obtain ⟨rfl, rfl⟩ := h
      rw [h2] at rx
      simp only [R] at rx
      refine Good.pure (x := .int .i64 0) hc (by simp [R]) ?_
      rw [hb]
      simp [builtin, Builtin.len_, run_underlying hu, rx, goInt]
    · simp only [Option.some.injEq, Prod.mk.injEq] at h; obtain ⟨rfl, rfl⟩ := h
      rw [h2] at rx
      simp only [R] at rx
      obtain ⟨L, ad, _, hx', _⟩ := rx
      refine Good.pure (x := .int .i64 _) hc (by simp [R]; rfl) ?_
      rw [hb]
      simp [builtin, Builtin.len_, run_underlying hu, hx', goInt]
    · cases h
  · simp only [evOp] at h
    split at h <;> rename_i h1 h2 <;> first | (cases h1; done) | skip
    · simp only [Option.some.injEq, Prod.mk.injEq] at h; obtain ⟨rfl, rfl⟩ := h
      rw [h2] at rx
      simp only [R] at rx
      refine Good.pure (x := .int .i64 0) hc (by simp [R]) ?_
      rw [hb]
      simp [builtin, Builtin.len_, run_underlying hu, rx, goInt]
    · split at h
      · rename_i es hes
        simp only [Option.some.injEq, Prod.mk.injEq] at h; obtain ⟨rfl, rfl⟩ := h
        rw [h2] at rx
        simp only [R] at rx
        obtain ⟨L, hL, hx'⟩ := rx
        obtain ⟨c, ck, hm, hk1, hk2⟩ := hc.at hes hL
        have hlen := Rs_length hk1
        simp only [List.length_map, Array.length_toList] at hlen
        refine Good.pure (x := .int .i64 es.length) hc (by simp [R]) ?_
        rw [hb]
        simp [builtin, Builtin.len_, run_underlying hu, hx', goInt, get_map hm, hlen]
      · cases h
    · cases h
theorem snd_cap {x : Operand} {t : TypeId} {kx : KO} {el : TypeId} (he : RE ρ e a) (hc : Conc ρ s w) (hop : o.op = .call { callee := .builtin .cap, args := #[x], argTypes := #[t] }) (hx : cO x = some kx)
    (hu : P.underlying t = some (.slice el)) (h : evOp e s (.cap kx) = some (v, s')) : Good P (execOp a.eval o) ρ s w v s' := by
  have rx := R_opd he hx
  have hb := run_builtinCall (P := P) (a := a) hop w
  simp only [evOp] at h
  split at h
  · rename_i h2
    simp only [Option.some.injEq, Prod.mk.injEq] at h; obtain ⟨rfl, rfl⟩ := h
    rw [h2] at rx
    simp only [R] at rx
    refine Good.pure (x := .int .i64 0) hc (by simp [R]) ?_
    rw [hb]
    simp [builtin, Builtin.cap_, run_underlying hu, rx, goInt]
  · rename_i id off n c h2
    simp only [Option.some.injEq, Prod.mk.injEq] at h; obtain ⟨rfl, rfl⟩ := h
    rw [h2] at rx
    simp only [R, Bool.false_eq_true, if_false, Nat.add_zero] at rx
    obtain ⟨L, ad, _, hx', _⟩ := rx
    refine Good.pure (x := .int .i64 c) hc (by simp [R]) ?_
    rw [hb]
    simp [builtin, Builtin.cap_, run_underlying hu, hx', goInt]
  · cases h

/-! maps -/
theorem keyEq_now {kt : EqT} {d : TypeDesc} (hd : (kt = .int ∧ ∃ k, d = .int k) ∨ (kt = .str ∧ d = .string)) {x y : AV} {u u' : Value} {r : Bool} (h : keyEq kt x y = some r) (hx : R ρ x u) (hy : R ρ y u') : Instr.sameNow d u u' = some r := by
  unfold keyEq at h
  split at h
  · split at h
    · rename_i hj
      simp only [Option.some.injEq] at h; subst h; subst hj
      rcases hd with ⟨_, k, rfl⟩ | ⟨h1, _⟩
      · rw [Ri hx, Ri hy]; simp [Instr.sameNow]
      · cases h1
    · cases h
  · simp only [Option.some.injEq] at h; subst h
    rcases hd with ⟨h1, _⟩ | ⟨_, rfl⟩
    · cases h1
    · rw [Rstr hx, Rstr hy]; simp [Instr.sameNow, beq_toListBytes, toList_string, eqb]
  · cases h
theorem findKey_now {kt : EqT} {d : TypeDesc} (hd : (kt = .int ∧ ∃ k, d = .int k) ∨ (kt = .str ∧ d = .string)) {x : AV} {u : Value} (hx : R ρ x u) : ∀ (es : List (AV × AV)) (l : List MapEntry) (i : Nat) (r : Option (Nat × AV)),
    Rs ρ (es.map (·.1)) (l.map (·.key)) → Rs ρ (es.map (·.2)) (l.map (·.val)) → findKey kt x es i = some r →
    (r = none ∧ Instr.findNow d u l i = some none) ∨ ∃ j p y, r = some (j, p) ∧ Instr.findNow d u l i = some (some (j, y)) ∧ R ρ p y ∧ i ≤ j ∧ j < i + es.length ∧ (∃ m, l[j - i]? = some m ∧ Instr.sameNow d u m.key = some true)
  | [], l, i, r, h1, h2, h => by
    simp only [findKey, Option.some.injEq] at h; subst h
    have : l = [] := by cases l <;> simp_all [Rs]
    subst this
    exact .inl ⟨rfl, rfl⟩
  | (p, q) :: es, l, i, r, h1, h2, h => by
    cases l with
    | nil => simp [Rs] at h1
    | cons m l =>
      simp only [List.map_cons, Rs, List.cons.injEq] at h1 h2
      obtain ⟨_, _, ⟨rfl, rfl⟩, h1a, h1b⟩ := h1
      obtain ⟨_, _, ⟨rfl, rfl⟩, h2a, h2b⟩ := h2
      simp only [findKey] at h
      split at h
      · rename_i hk
        simp only [Option.some.injEq] at h; subst h
        have := keyEq_now hd hk hx h1a
        exact .inr ⟨i, q, m.val, rfl, by simp [Instr.findNow, this], h2a, Nat.le_refl _, by simp, m, by simp, this⟩
      · rename_i hk
        have := keyEq_now hd hk hx h1a
        rcases findKey_now hd hx es l (i + 1) r h1b h2b h with ⟨rfl, h3⟩ | ⟨j, p', y, rfl, h3, h4, h5, h6, m', h7, h8⟩
        · exact .inl ⟨rfl, by simp [Instr.findNow, this, h3]⟩
        · refine .inr ⟨j, p', y, rfl, by simp [Instr.findNow, this, h3], h4, by omega, by simp; omega, m', ?_, h8⟩
          rw [show j - i = (j - (i + 1)) + 1 from by omega]; simpa using h7
      · cases h
theorem isKey_of {kt : EqT} {d : TypeDesc} (hd : (kt = .int ∧ ∃ k, d = .int k) ∨ (kt = .str ∧ d = .string)) : True := trivial
/-- a key's shape is checked nowhere for ints and strings -/
theorem run_checkKey_any {t : TypeId} {d : TypeDesc} (hd : P.underlying t = some d) (hk : (∃ k, d = .int k) ∨ d = .string) (em : Bool) (n : Nat) (u : Value) (w : World) : (Instr.checkKey em (n + 1) t u).run P w = .ok () w := by
  unfold Instr.checkKey
  simp only [Sem.run_bind, run_underlying hd, Result.andThen_ok]
  rcases hk with ⟨k, rfl⟩ | rfl <;> cases u <;> rfl

theorem eqt_key {t : TypeId} {kt : EqT} (h : eqt P 5 t = some kt) (hk : kt = .int ∨ kt = .str) : ∃ d, P.underlying t = some d ∧ ((kt = .int ∧ ∃ k, d = .int k) ∨ (kt = .str ∧ d = .string)) := by
  rcases hk with rfl | rfl
  · obtain ⟨k, hk⟩ := eqt_int h; exact ⟨_, hk, .inl ⟨rfl, k, rfl⟩⟩
  · exact ⟨_, eqt_str h, .inr ⟨rfl, rfl⟩⟩

theorem snd_lookup {t kt el : TypeId} {x y : Operand} {ok : Bool} {kx ky : KO} {ek : EqT} {z : AV} (he : RE ρ e a) (hc : Conc ρ s w) (hop : o.op = .lookup t x y ok) (hx : cO x = some kx) (hy : cO y = some ky)
    (hu : P.underlying t = some (.map kt el)) (hek : eqt P 5 kt = some ek) (hki : ek = .int ∨ ek = .str) (hz : zeroOf P el = some z) (h : evOp e s (.lookup ek z ok kx ky) = some (v, s')) : Good P (execOp a.eval o) ρ s w v s' := by
  have rx := R_opd he hx
  have ry := R_opd he hy
  obtain ⟨d, hd, hdk⟩ := eqt_key hek hki
  obtain ⟨iz, xz, hi, hxz, hrz⟩ := zeroOf_spec hz
  simp only [evOp] at h
  split at h
  · cases h
  · rename_i es hes
    have hmap : ∃ c : Array MapEntry, ((a.eval x = .map none ∧ c = #[]) ∨ ∃ r ck, a.eval x = .map (some r) ∧ w.heap[r]? = some (.map c ck)) ∧ Rs ρ (es.map (·.1)) (c.toList.map (·.key)) ∧ Rs ρ (es.map (·.2)) (c.toList.map (·.val)) := by
      unfold mapOf at hes
      split at hes
      · rename_i h2
        simp only [Option.some.injEq] at hes; subst hes
        rw [h2] at rx; simp only [R] at rx
        exact ⟨#[], .inl ⟨rx, rfl⟩, by simp [Rs], by simp [Rs]⟩
      · rename_i id h2
        split at hes
        · rename_i es' hg
          simp only [Option.some.injEq] at hes; subst hes
          rw [h2] at rx; simp only [R] at rx
          obtain ⟨L, hL, hx'⟩ := rx
          obtain ⟨c, ck, hm, hk1, hk2⟩ := hc.at hg hL
          exact ⟨c, .inr ⟨L.b, ck, hx', hm⟩, hk1, hk2⟩
        · cases hes
      · cases hes
    obtain ⟨c, hrun, hk1, hk2⟩ := hmap
    have hck : ∀ em, (Instr.checkKey em 10000 kt (a.eval y)).run P w = .ok () w := fun em => run_checkKey_any hd (by rcases hdk with ⟨_, k, rfl⟩ | ⟨_, rfl⟩; exact .inl ⟨k, rfl⟩; exact .inr rfl) em 9999 _ w
    split at h
    · rename_i i p hfk
      simp only [Option.some.injEq, Prod.mk.injEq] at h; obtain ⟨rfl, rfl⟩ := h
      rcases findKey_now hdk ry es c.toList 0 _ hk1 hk2 hfk with ⟨h0, _⟩ | ⟨j, p', u, h0, h3, h4, _⟩
      · cases h0
      · simp only [Option.some.injEq, Prod.mk.injEq] at h0; obtain ⟨rfl, rfl⟩ := h0
        have hfind := find_key hd h3 w
        have hlook : (Instr.lookup t (a.eval x) (a.eval y) ok).run P w = .ok (if ok then .tuple #[u, .bool true] else u) w := by
          simp only [Instr.lookup, Sem.run_bind, run_underlying hu, Result.andThen_ok]
          rcases hrun with ⟨h1, rfl⟩ | ⟨r, ck, h1, hm⟩
          · simp only [h1, Sem.run_bind, Sem.run_pure, Result.andThen_ok, hck, hfind]
          · simp only [h1, Sem.run_bind, get_map hm, Sem.run_pure, Result.andThen_ok, hck, hfind]
        refine Good.pure (x := if ok then .tuple #[u, .bool true] else u) hc ?_ (by simp [execOp, hop, hlook])
        cases ok
        · exact h4
        · simp only [if_true, R, Rs]; exact ⟨[u, .bool true], rfl, u, _, rfl, h4, .bool true, [], rfl, rfl, rfl⟩
    · rename_i hfk
      simp only [Option.some.injEq, Prod.mk.injEq] at h; obtain ⟨rfl, rfl⟩ := h
      rcases findKey_now hdk ry es c.toList 0 _ hk1 hk2 hfk with ⟨_, h3⟩ | ⟨j, p', u, h0, _⟩
      · have hfind := find_key hd h3 w
        have hlook : (Instr.lookup t (a.eval x) (a.eval y) ok).run P w = .ok (if ok then .tuple #[xz, .bool false] else xz) w := by
          simp only [Instr.lookup, Sem.run_bind, run_underlying hu, Result.andThen_ok]
          rcases hrun with ⟨h1, rfl⟩ | ⟨r, ck, h1, hm⟩
          · simp only [h1, Sem.run_bind, Sem.run_pure, Result.andThen_ok, hck, hfind, run_zeroValue hi hxz]
          · simp only [h1, Sem.run_bind, get_map hm, Sem.run_pure, Result.andThen_ok, hck, hfind, run_zeroValue hi hxz]
        refine Good.pure (x := if ok then .tuple #[xz, .bool false] else xz) hc ?_ (by simp [execOp, hop, hlook])
        cases ok
        · exact hrz ρ
        · simp only [if_true, R, Rs]; exact ⟨[xz, .bool false], rfl, xz, _, rfl, hrz ρ, .bool false, [], rfl, rfl, rfl⟩
      · cases h0
    · cases h

theorem Rs_set {x : List AV} {v : List Value} (h : Rs ρ x v) {i : Nat} {p : AV} {y : Value} (hp : R ρ p y) : Rs ρ (x.set i p) (v.set i y) := by
  have hl := Rs_length h
  refine Rs_of_get (by simp [hl]) ?_
  intro j q z hq hz
  rw [List.getElem?_set] at hq hz
  by_cases e : i = j
  · subst e
    rw [if_pos rfl] at hq hz
    by_cases hlt : i < x.length
    · rw [if_pos hlt] at hq
      rw [if_pos (by omega)] at hz
      cases hq; cases hz; exact hp
    · rw [if_neg hlt] at hq; cases hq
  · rw [if_neg e] at hq hz
    obtain ⟨z', hz', hr⟩ := Rs_get h hq
    rw [hz] at hz'; cases hz'; exact hr
theorem snd_mapup {t kt el : TypeId} {x y z : Operand} {kx ky kz : KO} {ek : EqT} (he : RE ρ e a) (hc : Conc ρ s w) (hop : o.op = .mapUpdate t x y z ∨ o.op = .insert t x y z) (hx : cO x = some kx) (hy : cO y = some ky) (hz : cO z = some kz)
    (hu : P.underlying t = some (.map kt el)) (hek : eqt P 5 kt = some ek) (hki : ek = .int ∨ ek = .str) (h : evOp e s (.mapup ek kx ky kz) = some (v, s')) : Good P (execOp a.eval o) ρ s w v s' := by
  have rx := R_opd he hx
  have ry := R_opd he hy
  have rz := R_opd he hz
  obtain ⟨d, hd, hdk⟩ := eqt_key hek hki
  have hck : ∀ em, (Instr.checkKey em 10000 kt (a.eval y)).run P w = .ok () w := fun em => run_checkKey_any hd (by
    rcases hdk with ⟨_, k, rfl⟩ | ⟨_, rfl⟩
    · exact .inl ⟨k, rfl⟩
    · exact .inr rfl) em 9999 _ w
  have hex : ∀ w', (Instr.mapUpdate t (a.eval x) (a.eval y) (a.eval z)).run P w = .ok () w' → (execOp a.eval o).run P w = .ok .skip w' := by
    intro w' h
    rcases hop with hop | hop <;> simp [execOp, hop, h]
  simp only [evOp] at h
  split at h
  · rename_i id h2
    rw [h2] at rx; simp only [R] at rx
    obtain ⟨L, hL, hx'⟩ := rx
    split at h
    · rename_i es hg
      obtain ⟨c, ck, hm, hk1, hk2⟩ := hc.at hg hL
      split at h
      · rename_i i p hfk
        simp only [Option.some.injEq, Prod.mk.injEq] at h; obtain ⟨rfl, rfl⟩ := h
        rcases findKey_now hdk ry es c.toList 0 _ hk1 hk2 hfk with ⟨h0, _⟩ | ⟨j, p', u, h0, h3, h4, _, hjlt, m, hm1, hm2⟩
        · cases h0
        · simp only [Option.some.injEq, Prod.mk.injEq] at h0; obtain ⟨rfl, rfl⟩ := h0
          have hfind := find_key hd h3 w
          simp only [Nat.sub_zero, Array.getElem?_toList] at hm1
          have hkey : ∀ w : World, (Instr.keyThatStays m.key (a.eval y)).run P w = .ok (a.eval y) w := by
            intro w
            have hsb : Instr.sameBits 10000 m.key (a.eval y) = true := by
              have hs := hm2
              unfold Instr.sameNow at hs
              split at hs
              · split at hs
                · rename_i heq1 heq2 hkk
                  simp only [Option.some.injEq, beq_iff_eq] at hs
                  rw [heq1, heq2]; simp [Instr.sameBits, hs, hkk]
                · cases hs
              · rename_i heq1 heq2
                simp only [Option.some.injEq] at hs
                rw [heq1, heq2]; unfold Instr.sameBits
                rename_i p q
                have : p = q := by
                  rw [beq_toListBytes] at hs
                  simp only [beq_iff_eq] at hs
                  rw [ByteArray.toList_eq, ByteArray.toList_eq] at hs
                  exact ByteArray.ext (Array.ext' hs)
                subst this
                rw [beq_toListBytes]; simp
              · rename_i heq1 heq2
                simp only [Option.some.injEq, beq_iff_eq] at hs
                rw [heq1, heq2]; simp [Instr.sameBits, hs]
              · cases hs
            simp [Instr.keyThatStays, hsb]
          have hrun : (Instr.mapUpdate t (a.eval x) (a.eval y) (a.eval z)).run P w = .ok () { w with heap := w.heap.setIfInBounds L.b (.map (c.modify i fun e => { e with key := a.eval y, val := a.eval z }) ck) } := by
            simp only [Instr.mapUpdate, Sem.run_bind, run_underlying hu, Result.andThen_ok, hx', get_map hm, hck, hfind]
            simp only [hm1, Option.map_some, Option.getD_some, hkey, Result.andThen_ok, set_map _ hm]
          have hlt : L.b < w.heap.size := (Array.getElem?_eq_some_iff.1 hm).1
          have hw : ∀ b, b ≠ L.b → (w.heap.setIfInBounds L.b (.map (c.modify i fun e => { e with key := a.eval y, val := a.eval z }) ck))[b]? = w.heap[b]? := fun b hb => by simp [Ne.symm hb]
          refine ⟨undef, ρ, _, .skip, hex _ hrun, .inr ⟨rfl, rfl⟩, R_u, hc.change hg rfl hL hw ?_, Chg.change hg rfl hL hw rfl rfl rfl (by simp)⟩
          refine ⟨c.modify i fun e => { e with key := a.eval y, val := a.eval z }, ck, by simp [hlt], ?_, ?_⟩
          · have e1 : (es.set i (ev e ky, ev e kz)).map (·.1) = (es.map (·.1)).set i (ev e ky) := by rw [List.map_set]
            have e2 : (c.modify i fun e => { e with key := a.eval y, val := a.eval z }).toList.map (·.key) = (c.toList.map (·.key)).set i (a.eval y) := by
              apply List.ext_getElem?
              intro q
              simp only [Array.toList_modify, List.getElem?_map, List.getElem?_set, List.length_map, Array.length_toList, List.getElem?_modify]
              by_cases hq : i = q
              · subst hq; simp [hm1]
                exact (Array.getElem?_eq_some_iff.1 hm1).1
              · simp [hq]
            rw [e1, e2]; exact Rs_set hk1 ry
          · have e1 : (es.set i (ev e ky, ev e kz)).map (·.2) = (es.map (·.2)).set i (ev e kz) := by rw [List.map_set]
            have e2 : (c.modify i fun e => { e with key := a.eval y, val := a.eval z }).toList.map (·.val) = (c.toList.map (·.val)).set i (a.eval z) := by
              apply List.ext_getElem?
              intro q
              simp only [Array.toList_modify, List.getElem?_map, List.getElem?_set, List.length_map, Array.length_toList, List.getElem?_modify]
              by_cases hq : i = q
              · subst hq; simp [hm1]
                exact (Array.getElem?_eq_some_iff.1 hm1).1
              · simp [hq]
            rw [e1, e2]; exact Rs_set hk2 rz
      · rename_i hfk
        simp only [Option.some.injEq, Prod.mk.injEq] at h; obtain ⟨rfl, rfl⟩ := h
        rcases findKey_now hdk ry es c.toList 0 _ hk1 hk2 hfk with ⟨_, h3⟩ | ⟨j, p', u, h0, _⟩
        · have hfind := find_key hd h3 w
          have hrun : (Instr.mapUpdate t (a.eval x) (a.eval y) (a.eval z)).run P w = .ok () { w with heap := w.heap.setIfInBounds L.b (.map (c.push { key := a.eval y, val := a.eval z, born := ck }) (ck + 1)) } := by
            simp only [Instr.mapUpdate, Sem.run_bind, run_underlying hu, Result.andThen_ok, hx', get_map hm, hck, hfind, set_map _ hm]
          have hlt : L.b < w.heap.size := (Array.getElem?_eq_some_iff.1 hm).1
          have hw : ∀ b, b ≠ L.b → (w.heap.setIfInBounds L.b (.map (c.push { key := a.eval y, val := a.eval z, born := ck }) (ck + 1)))[b]? = w.heap[b]? := fun b hb => by simp [Ne.symm hb]
          refine ⟨undef, ρ, _, .skip, hex _ hrun, .inr ⟨rfl, rfl⟩, R_u, hc.change hg rfl hL hw ?_, Chg.change hg rfl hL hw rfl rfl rfl (by simp)⟩
          refine ⟨c.push { key := a.eval y, val := a.eval z, born := ck }, ck + 1, by simp [hlt], ?_, ?_⟩
          · simp only [List.map_append, List.map_cons, List.map_nil, Array.toList_push]
            exact Rs_append hk1 (by simp only [Rs]; exact ⟨_, _, rfl, ry, rfl⟩)
          · simp only [List.map_append, List.map_cons, List.map_nil, Array.toList_push]
            exact Rs_append hk2 (by simp only [Rs]; exact ⟨_, _, rfl, rz, rfl⟩)
        · cases h0
      · cases h
    · cases h
  · cases h
end
end Go.Av
