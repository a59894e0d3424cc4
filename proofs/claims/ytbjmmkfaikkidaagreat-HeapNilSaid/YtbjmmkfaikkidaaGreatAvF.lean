/- The operations of the abstract run are true words of the model's, part 3. Generic: no program in it. -/
import Derived.Test.YtbjmmkfaikkidaaGreatAvE
import Derived.ChangeKeysEq
set_option linter.constructorNameAsVariable false
set_option linter.unusedVariables false
set_option linter.unusedSimpArgs false
namespace Go.Av
open Go.RowKit

section
variable {P : Program} {ρ : Rn} {e : Env} {a : Act} {s : St} {w : World} {o : Oper} {k : KOp} {v : AV} {s' : St}

theorem run_eqGuard_free {op : BinOp} {t : TypeId} {x y : Operand} {u u' : Value}
    (h1 : u = .nilIface → u' = .nilIface → constO x = true ∨ constO y = true) (h2 : ∀ xs ys, u = .agg xs → u' = .agg ys → P.eqGuardType P.depth t = false) (w : World) :
    (eqGuard op t x y u u').run P w = .ok () w := by
  unfold eqGuard
  cases op <;> first
    | (simp; done)
    | (dsimp only
       rw [if_neg (by simp)]
       split
       · rcases h1 rfl rfl with h | h
         · cases x <;> simp_all [constO]
         · cases y <;> simp_all [constO]
       · rename_i xs ys
         simp [h2 xs ys rfl rfl]
       · rfl)

/-! the parts of aggregates -/
theorem run_part {t : TypeId} {n : Option Nat} (hn : aggSize P t = some n) {l : List AV} {xs : List Value} (hr : Rs ρ l xs) {off : Nat} {r : AV}
    (h : partV n l off = some r) (w : World) : ∃ y, (part t ⟨xs⟩ off).run P w = .ok y w ∧ R ρ r y := by
  cases n with
  | some m =>
    simp only [partV, Option.some.injEq] at h; subst h
    refine ⟨.agg ⟨(xs.drop off).take m⟩, ?_, by simp only [R]; exact ⟨_, rfl, Rs_take m (Rs_drop off hr)⟩⟩
    have hs := run_sizeOf (aggSize_some hn) w
    simp only [part, Sem.run_bind, run_isAgg hn, Result.andThen_ok, Option.isSome_some, if_true, hs, Sem.run_pure]
    congr 2
    apply Array.ext'
    simp [List.extract_eq_take_drop]
  | none =>
    simp only [partV] at h
    obtain ⟨y, hy, hry⟩ := Rs_get hr h
    refine ⟨y, ?_, hry⟩
    simp [part, run_isAgg hn, hy]

section
variable (d : Nat) {t : TypeId} (w : World)
theorem eq_ptr0 {el : TypeId} (h : P.underlying t = some (.pointer el)) (b : Option Addr) : (Op.equalIn (d + 1) t (.pointer none) (.pointer b)).run P w = .ok b.isNone w := by
  simp [Op.equalIn, run_underlying h]
theorem eq_ptr1 {el : TypeId} (h : P.underlying t = some (.pointer el)) (b : Addr) : (Op.equalIn (d + 1) t (.pointer (some b)) (.pointer none)).run P w = .ok false w := by
  simp [Op.equalIn, run_underlying h]
theorem eq_ptr2 {el : TypeId} (h : P.underlying t = some (.pointer el)) {n : Nat} (hs : szOf P el = some n) (hn : n ≠ 0) (a b : Addr) :
    (Op.equalIn (d + 1) t (.pointer (some a)) (.pointer (some b))).run P w = (sameAddr a b).run P w := by
  simp only [Op.equalIn, Sem.run_bind, run_underlying h, Result.andThen_ok, run_sizeOf hs]
  rw [if_pos hn]
theorem eq_sl0 {el : TypeId} (h : P.underlying t = some (.slice el)) (b : Option Addr) (n m : Nat) : (Op.equalIn (d + 1) t (.slice none 0 0) (.slice b n m)).run P w = .ok b.isNone w := by
  simp [Op.equalIn, run_underlying h]
theorem eq_sl1 {el : TypeId} (h : P.underlying t = some (.slice el)) (b : Addr) (n m : Nat) : (Op.equalIn (d + 1) t (.slice (some b) n m) (.slice none 0 0)).run P w = .ok false w := by
  simp [Op.equalIn, run_underlying h]
theorem eq_m0 {x y : TypeId} (h : P.underlying t = some (.map x y)) (b : Option Nat) : (Op.equalIn (d + 1) t (.map none) (.map b)).run P w = .ok b.isNone w := by
  simp [Op.equalIn, run_underlying h]
theorem eq_m1 {x y : TypeId} (h : P.underlying t = some (.map x y)) (b : Nat) : (Op.equalIn (d + 1) t (.map (some b)) (.map none)).run P w = .ok false w := by
  simp [Op.equalIn, run_underlying h]
theorem eq_f0 {x y : Array TypeId} {z : Bool} (h : P.underlying t = some (.func x y z)) : (Op.equalIn (d + 1) t .nilFunc .nilFunc).run P w = .ok true w := by
  simp [Op.equalIn, run_underlying h]
theorem eq_f1 {x y : Array TypeId} {z : Bool} (h : P.underlying t = some (.func x y z)) (g : Fn) (b c : Array Value) : (Op.equalIn (d + 1) t .nilFunc (.func g b c)).run P w = .ok false w := by
  simp [Op.equalIn, run_underlying h]
theorem eq_f2 {x y : Array TypeId} {z : Bool} (h : P.underlying t = some (.func x y z)) (g : Fn) (b c : Array Value) : (Op.equalIn (d + 1) t (.func g b c) .nilFunc).run P w = .ok false w := by
  simp [Op.equalIn, run_underlying h]
theorem eq_n0 {x : Array (String × TypeId)} (h : P.underlying t = some (.interface x)) : (Op.equalIn (d + 1) t .nilIface .nilIface).run P w = .ok true w := by
  simp [Op.equalIn, run_underlying h]
theorem eq_n1 {x : Array (String × TypeId)} (h : P.underlying t = some (.interface x)) (u : TypeId) (v : Value) : (Op.equalIn (d + 1) t .nilIface (.iface u v)).run P w = .ok false w := by
  simp [Op.equalIn, run_underlying h]
theorem eq_n2 {x : Array (String × TypeId)} (h : P.underlying t = some (.interface x)) (u : TypeId) (v : Value) : (Op.equalIn (d + 1) t (.iface u v) .nilIface).run P w = .ok false w := by
  simp [Op.equalIn, run_underlying h]
end

theorem run_sameAddr_far {a b : Addr} {c c' : Array Value} {e e' : TypeId} (ha : w.heap[a.block]? = some (.cells c e (0, 0))) (hb : w.heap[b.block]? = some (.cells c' e' (0, 0))) (hne : a.block ≠ b.block) :
    (sameAddr a b).run P w = .ok false w := by
  have hf : ∀ (x : Addr) (c : Array Value) (e : TypeId), w.heap[x.block]? = some (.cells c e (0, 0)) → w.frozen? x = false := by
    intro x c e h; simp [World.frozen?, h]
  have hsh : ∀ (x : Addr) (c : Array Value) (e : TypeId), w.heap[x.block]? = some (.cells c e (0, 0)) → w.shape? x.block = some (e, c.size) := by
    intro x c e h; simp [World.shape?, h]
  have hst : ∀ (x : Addr) (c : Array Value) (e : TypeId), w.heap[x.block]? = some (.cells c e (0, 0)) → (stringish x).run P w = .ok false w := by
    intro x c e h
    simp [stringish, hf x c e h, hsh x c e h, hf ⟨x.block, c.size, none⟩ c e h]
  have hne' : (a.block == b.block) = false := by simpa using hne
  simp [sameAddr, hne', hf a c e ha, noView, viewAt, hsh a c e ha, hsh b c' e' hb, mayBeOne, hst a c e ha, hst b c' e' hb]
theorem run_sameAddr_near {a b : Addr} (h : a.block = b.block) : (sameAddr a b).run P w = .ok (a == b) w := by
  simp [sameAddr, h]

theorem run_sameAddr_L (L : Loc) (x y : Nat) : (sameAddr ⟨L.b, L.o + x, none⟩ ⟨L.b, L.o + y, none⟩).run P w = .ok (x == y) w := by
  rw [run_sameAddr_near (a := ⟨L.b, L.o + x, none⟩) (b := ⟨L.b, L.o + y, none⟩) rfl]
  congr 1
  rw [Bool.eq_iff_iff]; simp

theorem eqvs_sound {n : Nat} (ih : ∀ (t : TypeId) (et : EqT), eqt P n t = some et → ∀ (x y : AV) (u u' : Value) (r : Bool), eqv s et x y = some r → R ρ x u → R ρ y u' →
    ∀ d, n ≤ d → (Op.equalIn d t u u').run P w = .ok r w) : ∀ (fs : List Field) (l : List (Nat × Option Nat × EqT)), eqFields P (eqt P n) fs = some l → ∀ (x y : List AV) (u u' : List Value) (r : Bool), eqvs s l x y = some r → Rs ρ x u → Rs ρ y u' →
    ∀ d, n ≤ d → (Op.eqFields d ⟨u⟩ ⟨u'⟩ fs).run P w = .ok r w
  | [], l, h, x, y, u, u', r, hr, hx, hy, d, hd => by
    simp only [eqFields, Option.some.injEq] at h; subst h
    simp only [eqvs, Option.some.injEq] at hr; subst hr
    simp [Op.eqFields]
  | f :: fs, l, h, x, y, u, u', r, hr, hx, hy, d, hd => by
    simp only [eqFields] at h
    split at h
    · rename_i et n' l' het hn' hl'
      split at h
      · cases h
      · rename_i hname
        simp only [Option.some.injEq] at h; subst h
        simp only [eqvs] at hr
        split at hr
        · rename_i p q hp hq
          obtain ⟨z1, hz1, hr1⟩ := run_part hn' hx hp w
          obtain ⟨z2, hz2, hr2⟩ := run_part hn' hy hq w
          simp only [Op.eqFields, ne_eq, hname, not_false_eq_true, if_true, Sem.run_bind, hz1, hz2, Result.andThen_ok]
          split at hr
          · rename_i hb
            rw [ih f.type et het p q z1 z2 true hb hr1 hr2 d hd]
            simp only [Result.andThen_ok, Bool.not_true, Bool.false_eq_true, if_false]
            exact eqvs_sound ih fs l' hl' x y u u' r hr hx hy d hd
          · rename_i hb
            simp only [Option.some.injEq] at hr; subst hr
            rw [ih f.type et het p q z1 z2 false hb hr1 hr2 d hd]
            simp
          · cases hr
        · cases hr
    · cases h

theorem cellsOf_sz {t : TypeId} {z : Nat} (h : szOf P t = some z) : P.cellsOf t = z := by
  unfold szOf at h
  split at h
  · rename_i i hi
    simp only [Option.some.injEq] at h; subst h
    simp [Program.cellsOf, hi]
  · cases h
theorem eqItems_sound {n : Nat} {el : TypeId} {q : EqT} {z : Nat} {ag : Option Nat} (hq : eqt P n el = some q) (ha : aggSize P el = some ag) (hz : szOf P el = some z)
    (ih : ∀ (x y : AV) (u u' : Value) (r : Bool), eqv s q x y = some r → R ρ x u → R ρ y u' → ∀ d, n ≤ d → (Op.equalIn d el u u').run P w = .ok r w) : ∀ (is : List Nat) (x y : List AV) (u u' : List Value) (r : Bool),
    eqvs s (is.map fun i => (i * z, ag, q)) x y = some r → Rs ρ x u → Rs ρ y u' → ∀ d, n ≤ d → (Op.eqItems d el (P.cellsOf el) ⟨u⟩ ⟨u'⟩ is).run P w = .ok r w
  | [], x, y, u, u', r, hr, hx, hy, d, hd => by
    simp only [List.map_nil, eqvs, Option.some.injEq] at hr; subst hr
    simp [Op.eqItems]
  | i :: is, x, y, u, u', r, hr, hx, hy, d, hd => by
    simp only [List.map_cons, eqvs] at hr
    split at hr
    · rename_i p q' hp hq'
      obtain ⟨z1, hz1, hr1⟩ := run_part ha hx hp w
      obtain ⟨z2, hz2, hr2⟩ := run_part ha hy hq' w
      simp only [Op.eqItems, Sem.run_bind, cellsOf_sz hz, hz1, hz2, Result.andThen_ok]
      split at hr
      · rename_i hb
        rw [ih p q' z1 z2 true hb hr1 hr2 d hd]
        simp only [Result.andThen_ok, Bool.not_true, Bool.false_eq_true, if_false]
        have := eqItems_sound hq ha hz ih is x y u u' r hr hx hy d hd
        rw [cellsOf_sz hz] at this
        exact this
      · rename_i hb
        simp only [Option.some.injEq] at hr; subst hr
        rw [ih p q' z1 z2 false hb hr1 hr2 d hd]
        simp
      · cases hr
    · cases hr

theorem eqv_sound (hc : Conc ρ s w) : ∀ (n : Nat) (t : TypeId) (et : EqT), eqt P n t = some et → ∀ (x y : AV) (u u' : Value) (r : Bool), eqv s et x y = some r → R ρ x u → R ρ y u' →
    ∀ d, n ≤ d → (Op.equalIn d t u u').run P w = .ok r w := by
  intro n
  induction n with
  | zero => intro t et h; simp [eqt] at h
  | succ n ih =>
    intro t et h x y u u' r hr hx hy d hd
    obtain ⟨d, rfl⟩ : ∃ d', d = d' + 1 := ⟨d - 1, by omega⟩
    simp only [eqt] at h
    split at h <;> rename_i hu
    · simp only [Option.some.injEq] at h; subst h
      unfold eqv at hr
      split at hr <;> first | (cases hr; done) | skip
      all_goals (rename_i h1 <;> first | (cases h1; done) | skip)
      simp only [Option.some.injEq] at hr; subst hr
      rw [Rb hx, Rb hy]; exact run_equalIn_bool' w d t _ _ hu
    · simp only [Option.some.injEq] at h; subst h
      unfold eqv at hr
      split at hr <;> first | (cases hr; done) | skip
      all_goals (rename_i h1 <;> first | (cases h1; done) | skip)
      split at hr
      · rename_i hkk
        subst hkk
        simp only [Option.some.injEq] at hr; subst hr
        rw [Ri hx, Ri hy]; exact run_equalIn_int w d t _ _ _ _ hu
      · cases hr
    · simp only [Option.some.injEq] at h; subst h
      unfold eqv at hr
      split at hr <;> first | (cases hr; done) | skip
      all_goals (rename_i h1 <;> first | (cases h1; done) | skip)
      simp only [Option.some.injEq] at hr; subst hr
      rw [Rstr hx, Rstr hy, run_equalIn_string w d t _ _ hu, toList_string, toList_string]; rfl
    · split at h
      · cases h
      · rename_i hsz
        simp only [not_or] at hsz
        obtain ⟨m, hm⟩ : ∃ m, szOf P _ = some m := Option.ne_none_iff_exists'.1 hsz.2
        have hm0 : m ≠ 0 := fun e => hsz.1 (by rw [hm, e])
        simp only [Option.some.injEq] at h; subst h
        unfold eqv at hr
        split at hr <;> first | (cases hr; done) | skip
        all_goals (rename_i h1 <;> first | (cases h1; done) | skip)
        · simp only [Option.some.injEq] at hr; subst hr
          simp only [R] at hx hy; subst hx; subst hy
          exact eq_ptr0 d w hu _
        · simp only [Option.some.injEq] at hr; subst hr
          simp only [R] at hx hy; subst hx; obtain ⟨L, _, rfl⟩ := hy
          exact eq_ptr0 d w hu _
        · simp only [Option.some.injEq] at hr; subst hr
          simp only [R] at hx hy; subst hy; obtain ⟨L, _, rfl⟩ := hx
          exact eq_ptr1 d w hu _
        · simp only [R] at hx hy
          obtain ⟨L, hL, rfl⟩ := hx
          obtain ⟨L', hL', rfl⟩ := hy
          rw [eq_ptr2 d w hu hm hm0]
          split at hr
          · rename_i hid
            subst hid
            rw [hL] at hL'; cases hL'
            simp only [Option.some.injEq] at hr; subst hr
            exact run_sameAddr_L L _ _
          · rename_i hid
            split at hr
            · rename_i hga hgb
              simp only [Option.some.injEq] at hr; subst hr
              obtain ⟨c, fr, hb1, hfr1, _⟩ := hc.at hga hL
              obtain ⟨c', fr', hb2, hfr2, _⟩ := hc.at hgb hL'
              rw [hfr1.2 rfl] at hb1
              rw [hfr2.2 rfl] at hb2
              exact run_sameAddr_far hb1 hb2 fun hb => hid (hc.inj _ _ _ _ _ _ hga hgb rfl hL hL' hb)
            · cases hr
    · simp only [Option.some.injEq] at h; subst h
      unfold eqv at hr
      split at hr <;> first | (cases hr; done) | skip
      all_goals (rename_i h1 <;> first | (cases h1; done) | skip)
      all_goals (simp only [Option.some.injEq] at hr; subst hr; simp only [R] at hx hy)
      · subst hx; subst hy; exact eq_sl0 d w hu _ _ _
      · subst hx; obtain ⟨L, q, _, rfl, _⟩ := hy; exact eq_sl0 d w hu _ _ _
      · subst hy; obtain ⟨L, q, _, rfl, _⟩ := hx; exact eq_sl1 d w hu _ _ _
    · simp only [Option.some.injEq] at h; subst h
      unfold eqv at hr
      split at hr <;> first | (cases hr; done) | skip
      all_goals (rename_i h1 <;> first | (cases h1; done) | skip)
      all_goals (simp only [Option.some.injEq] at hr; subst hr; simp only [R] at hx hy)
      · subst hx; subst hy; exact eq_m0 d w hu _
      · subst hx; obtain ⟨L, _, rfl⟩ := hy; exact eq_m0 d w hu _
      · subst hy; obtain ⟨L, _, rfl⟩ := hx; exact eq_m1 d w hu _
    · simp only [Option.some.injEq] at h; subst h
      unfold eqv at hr
      split at hr <;> first | (cases hr; done) | skip
      all_goals (rename_i h1 <;> first | (cases h1; done) | skip)
      all_goals (simp only [Option.some.injEq] at hr; subst hr; simp only [R] at hx hy)
      · subst hx; subst hy; exact eq_f0 d w hu
      · subst hx; obtain ⟨L, q, rfl, _⟩ := hy; exact eq_f1 d w hu _ _ _
      · subst hy; obtain ⟨L, q, rfl, _⟩ := hx; exact eq_f2 d w hu _ _ _
    · simp only [Option.some.injEq] at h; subst h
      unfold eqv at hr
      split at hr <;> first | (cases hr; done) | skip
      all_goals (rename_i h1 <;> first | (cases h1; done) | skip)
      all_goals (simp only [Option.some.injEq] at hr; subst hr; simp only [R] at hx hy)
      · subst hx; subst hy; exact eq_n0 d w hu
      · subst hx; obtain ⟨L, rfl, _⟩ := hy; exact eq_n1 d w hu _ _
      · subst hy; obtain ⟨L, rfl, _⟩ := hx; exact eq_n2 d w hu _ _
    · split at h
      · cases h
      · rename_i hst
        split at h
        · rename_i l hl
          simp only [Option.some.injEq] at h; subst h
          unfold eqv at hr
          split at hr <;> first | (cases hr; done) | skip
          all_goals (rename_i h1 <;> first | (cases h1; done) | skip)
          rename_i x' y' _ 
          simp only [R] at hx hy
          obtain ⟨xs, rfl, hx⟩ := hx
          obtain ⟨ys, rfl, hy⟩ := hy
          have hfo : ∀ fs, P.underlying t = some (.struct fs) → P.fieldsOf t = fs := fun fs hfs => by unfold Program.fieldsOf; rw [hfs]
          rw [run_equalIn_struct w d t _ _ (by rw [hfo _ hu]; exact hu) (by simpa using hst), hfo _ hu]
          cases h1
          exact eqvs_sound ih _ l hl _ _ _ _ r hr hx hy d (by omega)
        · cases h
    · split at h
      · rename_i q ag z hq ha hz
        simp only [Option.some.injEq] at h; subst h
        unfold eqv at hr
        split at hr <;> first | (cases hr; done) | skip
        all_goals (rename_i h1 <;> first | (cases h1; done) | skip)
        simp only [R] at hx hy
        obtain ⟨xs, rfl, hx⟩ := hx
        obtain ⟨ys, rfl, hy⟩ := hy
        obtain ⟨i, hi⟩ : ∃ i, P.info? _ = some i := by
          have hz' := hz
          unfold szOf at hz'
          split at hz'
          · exact ⟨_, ‹_›⟩
          · cases hz'
        rw [run_equalIn_array w d _ _ hu hi]
        cases h1
        exact eqItems_sound hq ha hz (ih _ q hq) _ _ _ _ _ r hr hx hy d (by omega)
      · cases h
    · cases h

theorem R_nilIface {x : AV} (h : R ρ x .nilIface) : x = .n0 := by
  cases x <;> simp only [R, reduceCtorEq, false_and, and_false, exists_false, or_self] at h ⊢
theorem R_agg {x : AV} {xs : Array Value} (h : R ρ x (.agg xs)) : ∃ l, x = .ag l := by
  cases x <;> simp only [R, reduceCtorEq, false_and, and_false, exists_false, or_self] at h ⊢
  exact ⟨_, rfl⟩
theorem binv_left {op : BinOp} {x y r : AV} (h : binv op x y = some r) : (∃ k n, x = .i k n) ∨ (∃ l, x = .s l) ∨ ∃ k n, x = .fl k n := by
  unfold binv at h
  split at h
  · exact .inl ⟨_, _, rfl⟩
  · exact .inl ⟨_, _, rfl⟩
  · exact .inl ⟨_, _, rfl⟩
  · exact .inr (.inl ⟨_, rfl⟩)
  · exact .inr (.inr ⟨_, _, rfl⟩)
  · cases h
theorem snd_bin {op : BinOp} {t t' : TypeId} {x y : Operand} {kx ky : KO} (he : RE ρ e a) (hc : Conc ρ s w) (hop : o.op = .binOp op t x y t') (hx : cO x = some kx) (hy : cO y = some ky)
    (h : evOp e s (.bin op kx ky) = some (v, s')) : Good P (execOp a.eval o) ρ s w v s' := by
  simp only [evOp] at h
  split at h
  · rename_i r hr
    simp only [Option.some.injEq, Prod.mk.injEq] at h; obtain ⟨rfl, rfl⟩ := h
    have rx := R_opd he hx
    obtain ⟨z, hz, hrz⟩ := R_binv (P := P) rx (R_opd he hy) hr t w
    have hnot : a.eval x ≠ .nilIface ∧ ∀ q, a.eval x ≠ .agg q := by
      rcases binv_left hr with ⟨k, n, hk⟩ | ⟨l, hl⟩ | ⟨k, n, hk⟩
      · rw [hk] at rx; rw [Ri rx]; exact ⟨by simp, by simp⟩
      · rw [hl] at rx; rw [Rstr rx]; exact ⟨by simp, by simp⟩
      · rw [hk] at rx; simp only [R] at rx; rw [rx]; exact ⟨by simp, by simp⟩
    have hgd := run_eqGuard_free (P := P) (op := op) (t := t) (x := x) (y := y) (u := a.eval x) (u' := a.eval y) (fun h => absurd h hnot.1) (fun q _ h => absurd h (hnot.2 q)) w
    exact Good.pure hc hrz (by simp [execOp, hop, hgd, hz])
  · cases h
theorem eqv_n0 {et : EqT} {y : AV} {r : Bool} (h : eqv s et .n0 y = some r) : et = .iface := by
  cases et <;> cases y <;> simp only [eqv, reduceCtorEq] at h ⊢
theorem eqv_i {et : EqT} {k : IntKind} {n : Int} {y : AV} {r : Bool} (h : eqv s et (.i k n) y = some r) : et = .int := by
  cases et <;> cases y <;> simp only [eqv, reduceCtorEq] at h ⊢
theorem eqv_s {et : EqT} {l : List UInt8} {y : AV} {r : Bool} (h : eqv s et (.s l) y = some r) : et = .str := by
  cases et <;> cases y <;> simp only [eqv, reduceCtorEq] at h ⊢
theorem eqv_ag {et : EqT} {l : List AV} {y : AV} {r : Bool} (h : eqv s et (.ag l) y = some r) : ∃ fs, et = .struct fs := by
  cases et <;> cases y <;> simp only [eqv, reduceCtorEq] at h ⊢
  exact ⟨_, rfl⟩
theorem eqv_x {et : EqT} {k : Nat} {y : AV} {r : Bool} (h : eqv s et (.uk k) y = some r) : False := by
  cases et <;> cases y <;> simp only [eqv, reduceCtorEq] at h
theorem eqv_fl {et : EqT} {k : FloatKind} {n : Nat} {y : AV} {r : Bool} (h : eqv s et (.fl k n) y = some r) : False := by
  cases et <;> cases y <;> simp only [eqv, reduceCtorEq] at h
theorem R_numeric {x : AV} {u : Value} (h : R ρ x u) (hi : ∀ k n, x ≠ .i k n) (hs : ∀ l, x ≠ .s l) (hf : ∀ k n, x ≠ .fl k n) (hx : ∀ k, x ≠ .uk k) : (∀ k n, u ≠ .int k n) ∧ (∀ k n, u ≠ .float k n) ∧ (∀ k n m, u ≠ .complex k n m) ∧ ∀ q, u ≠ .string q := by
  cases x <;> simp only [R] at h <;> first
    | (exact absurd rfl (hi _ _))
    | (exact absurd rfl (hs _))
    | (exact absurd rfl (hf _ _))
    | (exact absurd rfl (hx _))
    | (subst h; simp; done)
    | (obtain ⟨_, _, rfl⟩ := h; simp; done)
    | (obtain ⟨_, _, _, rfl, _⟩ := h; simp; done)
    | (obtain ⟨_, _, rfl, _⟩ := h; simp; done)
    | (obtain ⟨_, rfl, _⟩ := h; simp; done)
theorem binOp_eql {t : TypeId} {u u' : Value} (h1 : ∀ k n, u ≠ .int k n) (h2 : ∀ k n, u ≠ .float k n) (h3 : ∀ k n m, u ≠ .complex k n m) (h4 : ∀ q, u ≠ .string q) :
    binOp .eql t u u' = (do pure (.bool (← Op.equal t u u'))) ∧ binOp .neq t u u' = (do pure (.bool (!(← Op.equal t u u')))) := by
  cases u <;> first
    | exact absurd rfl (h1 _ _)
    | exact absurd rfl (h2 _ _)
    | exact absurd rfl (h3 _ _ _)
    | exact absurd rfl (h4 _)
    | (cases u' <;> exact ⟨rfl, rfl⟩)
theorem eqt_int {n : Nat} {t : TypeId} (h : eqt P n t = some .int) : ∃ k, P.underlying t = some (.int k) := by
  cases n with
  | zero => simp [eqt] at h
  | succ n =>
    simp only [eqt] at h
    split at h <;> rename_i hu <;> first
      | exact ⟨_, hu⟩
      | (simp at h; done)
      | (split at h <;> first | (simp at h; done) | (split at h <;> simp at h))
theorem eqt_str {n : Nat} {t : TypeId} (h : eqt P n t = some .str) : P.underlying t = some .string := by
  cases n with
  | zero => simp [eqt] at h
  | succ n =>
    simp only [eqt] at h
    split at h <;> rename_i hu <;> first
      | exact hu
      | (simp at h; done)
      | (split at h <;> first | (simp at h; done) | (split at h <;> simp at h))
theorem eqt_iface {n : Nat} {t : TypeId} (h : eqt P n t = some .iface) : ∃ ms, P.underlying t = some (.interface ms) := by
  cases n with
  | zero => simp [eqt] at h
  | succ n =>
    simp only [eqt] at h
    split at h <;> rename_i hu <;> first
      | exact ⟨_, hu⟩
      | (simp at h; done)
      | (split at h <;> first | (simp at h; done) | (split at h <;> simp at h))
theorem eqt_struct {n : Nat} {t : TypeId} {l : List (Nat × Option Nat × EqT)} (h : eqt P n t = some (.struct l)) : (∃ fs, P.underlying t = some (.struct fs)) ∨ ∃ m el, P.underlying t = some (.array m el) := by
  cases n with
  | zero => simp [eqt] at h
  | succ n =>
    simp only [eqt] at h
    split at h <;> rename_i hu <;> first
      | exact .inl ⟨_, hu⟩
      | exact .inr ⟨_, _, hu⟩
      | (simp at h; done)
      | (split at h <;> first | (simp at h; done) | (split at h <;> simp at h))
theorem snd_eq {op : BinOp} {neg : Bool} {et : EqT} {t t' : TypeId} {x y : Operand} {kx ky : KO} (he : RE ρ e a) (hc : Conc ρ s w) (hop : o.op = .binOp op t x y t') (hx : cO x = some kx) (hy : cO y = some ky)
    (hni : ∀ k, P.underlying t ≠ some (.int k)) (hns : P.underlying t ≠ some .string) (hneg : (neg = false ∧ op = .eql) ∨ (neg = true ∧ op = .neq)) (het : eqt P 5 t = some et) (hg : isGuardFree P op t x y = true)
    (h : evOp e s (.eq neg et kx ky) = some (v, s')) : Good P (execOp a.eval o) ρ s w v s' := by
  simp only [evOp] at h
  split at h
  · rename_i r hr
    simp only [Option.some.injEq, Prod.mk.injEq] at h; obtain ⟨rfl, rfl⟩ := h
    have rx := R_opd he hx
    have ry := R_opd he hy
    have hgd := run_eqGuard_free (P := P) (op := op) (t := t) (x := x) (y := y) (u := a.eval x) (u' := a.eval y) (fun h _ => by
      rw [h] at rx
      rw [R_nilIface rx] at hr
      have := eqv_n0 hr
      subst this
      obtain ⟨ms, hms⟩ := eqt_iface het
      rcases hneg with ⟨_, rfl⟩ | ⟨_, rfl⟩ <;> simpa [isGuardFree, hms] using hg) (fun q _ h _ => by
      rw [h] at rx
      obtain ⟨l, hl⟩ := R_agg rx
      rw [hl] at hr
      obtain ⟨fs, rfl⟩ := eqv_ag hr
      rcases eqt_struct het with ⟨ms, hms⟩ | ⟨ms, el, hms⟩ <;> rcases hneg with ⟨_, rfl⟩ | ⟨_, rfl⟩ <;> simpa [isGuardFree, hms] using hg) w
    have hrun := eqv_sound hc 5 t et het _ _ _ _ r hr rx ry 10000 (by omega)
    obtain ⟨n1, n2, n3, n4⟩ := R_numeric rx (fun k n hh => by
      rw [hh] at hr
      have := eqv_i hr
      subst this
      obtain ⟨k, hk⟩ := eqt_int het
      exact hni k hk) (fun l hh => by
      rw [hh] at hr
      have := eqv_s hr
      subst this
      exact hns (eqt_str het)) (fun k n hh => by
      rw [hh] at hr
      exact eqv_fl hr) (fun k hh => by
      rw [hh] at hr
      exact eqv_x hr)
    have hbin : (binOp op t (a.eval x) (a.eval y)).run P w = .ok (.bool (neg != r)) w := by
      obtain ⟨b1, b2⟩ := binOp_eql (t := t) (u' := a.eval y) n1 n2 n3 n4
      rcases hneg with ⟨rfl, rfl⟩ | ⟨rfl, rfl⟩
      · rw [b1]; simp [Op.equal, Op.maxDepth, hrun]
      · rw [b2]; simp [Op.equal, Op.maxDepth, hrun]
    exact Good.pure (x := .bool (neg != r)) hc (by simp [R]) (by simp [execOp, hop, hgd, hbin])
  · cases h
theorem snd_binOp {op : BinOp} {t t' : TypeId} {x y : Operand} (he : RE ρ e a) (hc : Conc ρ s w) (hop : o.op = .binOp op t x y t') (hk : cOp P o = some k) (h : evOp e s k = some (v, s')) : Good P (execOp a.eval o) ρ s w v s' := by
  simp only [cOp, hop] at hk
  split at hk
  · cases hk
  · rename_i hg
    split at hk <;> rename_i hx hy hu
    · simp only [Option.some.injEq] at hk; subst hk
      exact snd_bin he hc hop hx hy h
    · simp only [Option.some.injEq] at hk; subst hk
      exact snd_bin he hc hop hx hy h
    · simp only [Option.some.injEq] at hk; subst hk
      exact snd_bin he hc hop hx hy h
    · rename_i d hd _
      have hni : ∀ k, P.underlying t ≠ some (.int k) := fun k hh => d k (Option.some.inj (hu.symm.trans hh))
      have hns : P.underlying t ≠ some .string := fun hh => hd (Option.some.inj (hu.symm.trans hh))
      split at hk
      · rename_i het
        simp only [Option.some.injEq] at hk; subst hk
        exact snd_eq he hc hop ‹cO x = _› ‹cO y = _› hni hns (.inl ⟨rfl, rfl⟩) het hg h
      · rename_i het
        simp only [Option.some.injEq] at hk; subst hk
        exact snd_eq he hc hop ‹cO x = _› ‹cO y = _› hni hns (.inr ⟨rfl, rfl⟩) het hg h
      · cases hk
    · cases hk
end
end Go.Av
