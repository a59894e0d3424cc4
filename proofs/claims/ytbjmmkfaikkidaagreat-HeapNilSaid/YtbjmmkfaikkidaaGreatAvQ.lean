/- Regions that draw their order, part 1: what the text's order does, and what an operation looks at. Generic: no program in it. -/
import Derived.Test.YtbjmmkfaikkidaaGreatAvP
set_option linter.constructorNameAsVariable false
set_option linter.unusedVariables false
set_option linter.unusedSimpArgs false
namespace Go.Av
open Go.RowKit

theorem evs_congr {e e' : Env} : ∀ {l : List KO}, (∀ x ∈ l, ev e x = ev e' x) → evs e l = evs e' l
  | [], _ => rfl
  | x :: r, h => by simp only [evs]; rw [h x (by simp), evs_congr fun y hy => h y (by simp [hy])]
theorem fillAll_congr {e e' : Env} : ∀ {ps : List (Nat × Nat × KO)} {l : List AV}, (∀ x ∈ ps.map (·.2.2), ev e x = ev e' x) → fillAll e l ps = fillAll e' l ps
  | [], l, _ => rfl
  | (o, sz, x) :: r, l, h => by
    simp only [fillAll]
    rw [h x (by simp)]
    split
    · exact fillAll_congr fun y hy => h y (by simp at hy ⊢; exact .inr hy)
    · rfl
theorem bnd_congr {e e' : Env} {x : Option KO} {d y : Nat} (h : ∀ z ∈ kosO x, ev e z = ev e' z) : bnd e x d y = bnd e' x d y := by
  cases x with
  | none => rfl
  | some z => simp only [bnd]; rw [h z (by simp [kosO])]
theorem evOp_congr {e e' : Env} {s : St} {k : KOp} (h : ∀ x ∈ k.kos, ev e x = ev e' x) : evOp e s k = evOp e' s k := by
  cases k with
  | newv t z => rfl
  | mkmap => rfl
  | bad => rfl
  | call c l => rfl
  | build z ps => simp only [evOp]; rw [fillAll_congr h]
  | bslice t n z ps => simp only [evOp]; rw [fillAll_congr h]
  | mkf g x y =>
    simp only [evOp]
    rw [evs_congr (l := x) fun z hz => h z (by simp [KOp.kos, hz]), evs_congr (l := y) fun z hz => h z (by simp [KOp.kos, hz])]
  | mkfm g x y =>
    simp only [evOp]
    rw [evs_congr (l := x) fun z hz => h z (by simp [KOp.kos, hz]), evs_congr (l := y) fun z hz => h z (by simp [KOp.kos, hz])]
  | min l => simp only [evOp]; rw [evs_congr (l := l) fun z hz => h z hz]
  | max l => simp only [evOp]; rw [evs_congr (l := l) fun z hz => h z hz]
  | slS x lo hi =>
    simp only [evOp]
    rw [h x (by simp [KOp.kos])]
    simp only [fun d y => bnd_congr (x := hi) (d := d) (y := y) fun z hz => h z (by simp [KOp.kos, hz]), fun d y => bnd_congr (x := lo) (d := d) (y := y) fun z hz => h z (by simp [KOp.kos, hz])]
  | sl n x lo hi mx =>
    simp only [evOp]
    rw [h x (by simp [KOp.kos])]
    simp only [fun d y => bnd_congr (x := hi) (d := d) (y := y) fun z hz => h z (by simp [KOp.kos, hz]), fun d y => bnd_congr (x := lo) (d := d) (y := y) fun z hz => h z (by simp [KOp.kos, hz]),
      fun d y => bnd_congr (x := mx) (d := d) (y := y) fun z hz => h z (by simp [KOp.kos, hz])]
  | slA m n x lo hi =>
    simp only [evOp]
    rw [h x (by simp [KOp.kos])]
    simp only [fun d y => bnd_congr (x := hi) (d := d) (y := y) fun z hz => h z (by simp [KOp.kos, hz]), fun d y => bnd_congr (x := lo) (d := d) (y := y) fun z hz => h z (by simp [KOp.kos, hz])]
  | pick c x y => simp only [evOp]; rw [h c (by simp [KOp.kos]), h x (by simp [KOp.kos]), h y (by simp [KOp.kos])]
  | mapup t x i v => simp only [evOp]; rw [h x (by simp [KOp.kos]), h i (by simp [KOp.kos]), h v (by simp [KOp.kos])]
  | mv x | box _ x | ld1 x | ldn _ x | nchk _ x | un _ x | cvi _ x | cvid x | cvf _ x | clr _ x | cvsb _ x | cvbs x | mkif _ x | fadd _ x | fld _ _ x | ext x _ | len _ x | cap x =>
    simp only [evOp]; rw [h x (by simp [KOp.kos])]
  | st _ x v | bin _ x v | eq _ _ x v | mkslice _ _ _ x v | iadd _ x v | iaddA _ _ x v | idxS x v | idxA _ _ _ x v | lookup _ _ _ x v | append _ _ _ x v | copy _ x v | del _ x v =>
    simp only [evOp]; rw [h x (by simp [KOp.kos]), h v (by simp [KOp.kos])]
theorem target_congr {cx : Cx} {e e' : Env} {c : KCallee} {l : List KO} (h : ∀ x ∈ (KOp.call c l).kos, ev e x = ev e' x) : target cx e c l = target cx e' c l := by
  have hl : evs e l = evs e' l := evs_congr fun x hx => h x (by simp [KOp.kos, hx])
  cases c with
  | fn g => simp only [target, hl]
  | val x => simp only [target]; rw [h x (by simp [KOp.kos]), hl]
  | inv x m => simp only [target]; rw [h x (by simp [KOp.kos]), hl]
theorem yielded_congr {e e' : Env} {c : KCallee} {l : List KO} (h : ∀ x ∈ (KOp.call c l).kos, ev e x = ev e' x) : yielded? e c l = yielded? e' c l := by
  have hl : evs e l = evs e' l := evs_congr fun x hx => h x (by simp [KOp.kos, hx])
  cases c with
  | fn g => rfl
  | val x => simp only [yielded?]; rw [h x (by simp [KOp.kos]), hl]
  | inv x m => rfl
theorem runO_congr {cx : Cx} {n : Nat} {k : KOp} {e e' : Env} {s : St} (h : ∀ x ∈ k.kos, ev e x = ev e' x) : runO cx n k e s = runO cx n k e' s := by
  cases n with
  | zero => rfl
  | succ n =>
    cases k with
    | call c l => simp only [runO]; rw [target_congr h, yielded_congr h]
    | _ => simp only [runO]; exact evOp_congr h

/-- of temporaries alone: the heap does not matter -/
theorem evOp_T {e : Env} {s : St} {k : KOp} (hk : k.cls = 0) {v : AV} {s' : St} (h : evOp e s k = some (v, s')) : s' = s ∧ ∀ s2, evOp e s2 k = some (v, s2) := by
  cases k <;> simp only [KOp.cls, Nat.reduceEqDiff, reduceCtorEq] at hk <;> simp only [evOp] at h ⊢ <;> (repeat' split at h) <;> first
    | (cases h; done)
    | (simp only [Option.some.injEq, Prod.mk.injEq] at h
       obtain ⟨rfl, rfl⟩ := h
       refine ⟨rfl, fun s2 => ?_⟩
       simp_all)
/-- it reads memory -/
theorem evOp_R {e : Env} {s : St} {k : KOp} (hk : k.cls = 1) {v : AV} {s' : St} (h : evOp e s k = some (v, s')) : s' = s := by
  cases k <;> simp only [KOp.cls, Nat.reduceEqDiff, reduceCtorEq] at hk <;> simp only [evOp] at h ⊢ <;> (repeat' split at h) <;> first
    | (cases h; done)
    | (simp only [Option.some.injEq, Prod.mk.injEq] at h
       exact h.2.symm)
/-- it makes memory -/
theorem evOp_A {e : Env} {s : St} {k : KOp} (hk : k.cls = 2) {v : AV} {s' : St} (h : evOp e s k = some (v, s')) :
    ∃ o, o.own = true ∧ s' = { heap := s.heap.set s.next o, next := s.next + 1 } ∧ ∀ s2 : St, s2.next = s.next → evOp e s2 k = some (v, { heap := s2.heap.set s2.next o, next := s2.next + 1 }) := by
  cases k <;> simp only [KOp.cls, Nat.reduceEqDiff, reduceCtorEq] at hk <;> simp only [evOp] at h ⊢ <;> (repeat' split at h) <;> first
    | (cases h; done)
    | (simp only [Option.some.injEq, Prod.mk.injEq] at h
       obtain ⟨rfl, rfl⟩ := h
       refine ⟨_, ?_, rfl, fun s2 h2 => ?_⟩
       · rfl
       · simp_all [newRow])
end Go.Av
