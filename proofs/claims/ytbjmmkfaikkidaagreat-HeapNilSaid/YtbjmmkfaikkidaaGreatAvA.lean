/- The abstract values, the abstract heap, and what they say of a world. Generic: no program in it. -/
import Derived.WalkKit
import Derived.CallsIn
import Derived.OrdersIn
set_option linter.constructorNameAsVariable false
namespace Go.Av

/-- abstract values: blocks are named by numbers of our own -/
inductive AV where
  | b (x : Bool)
  | i (k : IntKind) (n : Int)
  | s (l : List UInt8)
  | fl (k : FloatKind) (n : Nat)
  | uk (id : Nat)
  | p0 | p (id off : Nat)
  | sl0 | sl (id off len cap : Nat) (op : Bool)
  | m0 | m (id : Nat)
  | f0 | f (g : Nat) (first caps : List AV)
  | fm (m : String) (first caps : List AV)
  | yd (id : Nat)
  | n0 | ifc (t : Nat) (v : AV)
  | ag (l : List AV)
  | tu (l : List AV)
  deriving Inhabited

def AV.u : AV := .tu []
def AV.cells : AV → List AV
  | .ag l => l
  | v => [v]
def AV.one : AV → Bool
  | .ag _ | .tu _ => false
  | _ => true

inductive Tr (α : Type) where
  | e
  | n (l : Tr α) (v : Option α) (r : Tr α)
  deriving Inhabited

namespace Tr
variable {α : Type}
def get : Tr α → Nat → Option α
  | .e, _ => none
  | .n l v r, k => match k with
    | 0 => v
    | j + 1 => match Nat.beq (j % 2) 0 with
      | true => get l (j / 2)
      | false => get r (j / 2)
/-- in CPS, so that the spine is built -/
def setK {β : Type} : Nat → Tr α → Nat → Option α → (Tr α → β) → β
  | 0, t, _, _, K => K t
  | f + 1, t, k, v, K => match t with
    | .e => match k with
      | 0 => K (.n .e v .e)
      | j + 1 => match Nat.beq (j % 2) 0 with
        | true => setK f .e (j / 2) v fun l' => K (.n l' none .e)
        | false => setK f .e (j / 2) v fun r' => K (.n .e none r')
    | .n l x r => match k with
      | 0 => K (.n l v r)
      | j + 1 => match Nat.beq (j % 2) 0 with
        | true => setK f l (j / 2) v fun l' => K (.n l' x r)
        | false => setK f r (j / 2) v fun r' => K (.n l x r')
def set (t : Tr α) (k : Nat) (v : α) : Tr α := setK (k + 1) t k (some v) id
def del (t : Tr α) (k : Nat) : Tr α := setK (k + 1) t k none id
def ofListFrom : List α → Nat → Tr α → Tr α
  | [], _, t => t
  | x :: r, k, t => setK (k + 1) t k (some x) fun t' => ofListFrom r (k + 1) t'
def ofList (l : List α) : Tr α := ofListFrom l 0 .e

theorem setK_ex : ∀ (f : Nat) (t : Tr α) (k : Nat) (v : Option α), k < f →
    ∃ t' : Tr α, (∀ (β : Type) (K : Tr α → β), setK f t k v K = K t') ∧ ∀ j, get t' j = if j = k then v else get t j := by
  intro f
  induction f with
  | zero => intro t k v h; omega
  | succ f ih =>
    intro t k v h
    cases t with
    | e =>
      cases k with
      | zero =>
        refine ⟨.n .e v .e, fun _ _ => rfl, fun j => ?_⟩
        cases j with
        | zero => simp [get]
        | succ j => cases hb : Nat.beq (j % 2) 0 <;> simp [get, hb]
      | succ k =>
        obtain ⟨t', h1, h2⟩ := ih .e (k / 2) v (by omega)
        cases hk : Nat.beq (k % 2) 0 with
        | true =>
          refine ⟨.n t' none .e, fun _ _ => by simp [setK, hk, h1], fun j => ?_⟩
          cases j with
          | zero => simp [get]
          | succ j =>
            cases hb : Nat.beq (j % 2) 0 with
            | true =>
              simp only [get, hb, h2, Nat.add_right_cancel_iff]
              have := Nat.eq_of_beq_eq_true hk
              have := Nat.eq_of_beq_eq_true hb
              by_cases e : j = k
              · simp [e]
              · rw [if_neg (by omega), if_neg e]
            | false =>
              have h0 : Nat.beq (j % 2) 0 ≠ true := by simp [hb]
              simp only [get, hb, Nat.add_right_cancel_iff]
              rw [if_neg (by rintro rfl; exact h0 hk)]
        | false =>
          refine ⟨.n .e none t', fun _ _ => by simp [setK, hk, h1], fun j => ?_⟩
          cases j with
          | zero => simp [get]
          | succ j =>
            have hk' : k % 2 = 1 := by have := Nat.ne_of_beq_eq_false hk; omega
            cases hb : Nat.beq (j % 2) 0 with
            | true =>
              simp only [get, hb, Nat.add_right_cancel_iff]
              rw [if_neg (by rintro rfl; rw [hb] at hk; cases hk)]
            | false =>
              have hb' : j % 2 = 1 := by have := Nat.ne_of_beq_eq_false hb; omega
              simp only [get, hb, h2, Nat.add_right_cancel_iff]
              by_cases e : j = k
              · simp [e]
              · rw [if_neg (by omega), if_neg e]
    | n l x r =>
      cases k with
      | zero =>
        refine ⟨.n l v r, fun _ _ => rfl, fun j => ?_⟩
        cases j with
        | zero => simp [get]
        | succ j => cases hb : Nat.beq (j % 2) 0 <;> simp [get, hb]
      | succ k =>
        cases hk : Nat.beq (k % 2) 0 with
        | true =>
          obtain ⟨t', h1, h2⟩ := ih l (k / 2) v (by omega)
          refine ⟨.n t' x r, fun _ _ => by simp [setK, hk, h1], fun j => ?_⟩
          cases j with
          | zero => simp [get]
          | succ j =>
            cases hb : Nat.beq (j % 2) 0 with
            | true =>
              simp only [get, hb, h2, Nat.add_right_cancel_iff]
              have := Nat.eq_of_beq_eq_true hk
              have := Nat.eq_of_beq_eq_true hb
              by_cases e : j = k
              · simp [e]
              · rw [if_neg (by omega), if_neg e]
            | false =>
              simp only [get, hb, Nat.add_right_cancel_iff]
              rw [if_neg (by rintro rfl; rw [hk] at hb; cases hb)]
        | false =>
          obtain ⟨t', h1, h2⟩ := ih r (k / 2) v (by omega)
          refine ⟨.n l x t', fun _ _ => by simp [setK, hk, h1], fun j => ?_⟩
          have hk' : k % 2 = 1 := by have := Nat.ne_of_beq_eq_false hk; omega
          cases j with
          | zero => simp [get]
          | succ j =>
            cases hb : Nat.beq (j % 2) 0 with
            | true =>
              simp only [get, hb, Nat.add_right_cancel_iff]
              rw [if_neg (by rintro rfl; rw [hb] at hk; cases hk)]
            | false =>
              have hb' : j % 2 = 1 := by have := Nat.ne_of_beq_eq_false hb; omega
              simp only [get, hb, h2, Nat.add_right_cancel_iff]
              by_cases e : j = k
              · simp [e]
              · rw [if_neg (by omega), if_neg e]

theorem get_set (t : Tr α) (k : Nat) (v : α) (j : Nat) : (t.set k v).get j = if j = k then some v else t.get j := by
  obtain ⟨t', h1, h2⟩ := setK_ex (k + 1) t k (some v) (by omega)
  rw [set, h1]; exact h2 j
theorem get_del (t : Tr α) (k : Nat) (j : Nat) : (t.del k).get j = if j = k then none else t.get j := by
  obtain ⟨t', h1, h2⟩ := setK_ex (k + 1) t k none (by omega)
  rw [del, h1]; exact h2 j
theorem setK_set {β : Type} (t : Tr α) (k : Nat) (v : α) (K : Tr α → β) : setK (k + 1) t k (some v) K = K (t.set k v) := by
  obtain ⟨t', h1, _⟩ := setK_ex (k + 1) t k (some v) (by omega)
  rw [set, h1, h1]; rfl
theorem get_ofListFrom : ∀ (l : List α) (k : Nat) (t : Tr α) (j : Nat),
    (ofListFrom l k t).get j = if k ≤ j ∧ j < k + l.length then l[j - k]? else t.get j := by
  intro l
  induction l with
  | nil => intro k t j; simp only [ofListFrom, List.length_nil]; rw [if_neg (by omega)]
  | cons x r ih =>
    intro k t j
    simp only [ofListFrom, setK_set, ih, get_set, List.length_cons]
    by_cases h1 : k + 1 ≤ j ∧ j < k + 1 + r.length
    · rw [if_pos h1, if_pos (by omega)]
      obtain ⟨d, rfl⟩ : ∃ d, j = k + 1 + d := ⟨j - (k + 1), by omega⟩
      rw [show k + 1 + d - (k + 1) = d from by omega, show k + 1 + d - k = d + 1 from by omega]
      simp
    · rw [if_neg h1]
      by_cases h2 : j = k
      · subst h2; rw [if_pos rfl, if_pos (by omega)]; simp
      · rw [if_neg h2, if_neg (by omega)]
theorem get_ofList (l : List α) (j : Nat) : (ofList l).get j = l[j]? := by
  rw [ofList, get_ofListFrom]
  by_cases h : j < l.length
  · rw [if_pos (by omega)]; rfl
  · rw [if_neg (by omega)]; simp [get, List.getElem?_eq_none (Nat.le_of_not_lt h)]
end Tr

/-- an object of the abstract heap: a row of cells (with a spare of unknown length where 'op' gives the size of its elements), a row that is only read, a map -/
inductive AObj where
  | row (elem : Nat) (n : Nat) (cs : Tr AV) (op : Option Nat)
  | ro (cs : Tr AV)
  | map (es : List (AV × AV))
  | loop (st : LoopState) (pend : Option Code) (nt : Nat) (e : Tr AV) (ps : List Nat) (ca cb : Code)
  deriving Inhabited

def AObj.own : AObj → Bool
  | .ro _ => false
  | _ => true

structure St where
  heap : Tr AObj
  next : Nat
  deriving Inhabited

/-- where a block of ours lies: the block, where its row begins in it, how long its spare is; or, of an unknown, its value -/
structure Loc where
  b : Nat
  o : Nat
  tl : Nat
  val : Value

abbrev Rn := Nat → Option Loc

mutual
def R (ρ : Rn) : AV → Value → Prop
  | .b x, v => v = .bool x
  | .i k n, v => v = .int k n
  | .s l, v => v = .string ⟨⟨l⟩⟩
  | .fl k n, v => v = .float k n
  | .uk id, v => ∃ L, ρ id = some L ∧ v = L.val ∧ ((∃ k n, v = .int k n) ∨ ∃ t, v = .string t)
  | .p0, v => v = .pointer none
  | .p id off, v => ∃ L, ρ id = some L ∧ v = .pointer (some ⟨L.b, L.o + off, none⟩)
  | .sl0, v => v = .slice none 0 0
  | .sl id off len cap op, v => ∃ L a, ρ id = some L ∧ v = .slice (some a) len (cap + if op then L.tl else 0) ∧
      (cap + (if op then L.tl else 0) = 0 ∨ a = ⟨L.b, L.o + off, none⟩)
  | .m0, v => v = .map none
  | .m id, v => ∃ L, ρ id = some L ∧ v = .map (some L.b)
  | .f0, v => v = .nilFunc
  | .f g a b, v => ∃ a' b', v = .func (.func g) ⟨a'⟩ ⟨b'⟩ ∧ Rs ρ a a' ∧ Rs ρ b b'
  | .fm m a b, v => ∃ a' b', v = .func (.method m) ⟨a'⟩ ⟨b'⟩ ∧ Rs ρ a a' ∧ Rs ρ b b'
  | .yd id, v => ∃ L, ρ id = some L ∧ v = .func (.yield L.b) #[] #[]
  | .n0, v => v = .nilIface
  | .ifc t x, v => ∃ y, v = .iface t y ∧ R ρ x y
  | .ag l, v => ∃ l', v = .agg ⟨l'⟩ ∧ Rs ρ l l'
  | .tu l, v => ∃ l', v = .tuple ⟨l'⟩ ∧ Rs ρ l l'
def Rs (ρ : Rn) : List AV → List Value → Prop
  | [], vs => vs = []
  | x :: r, vs => ∃ y s, vs = y :: s ∧ R ρ x y ∧ Rs ρ r s
end

/-- ρ' says all that ρ says -/
def Rn.le (ρ ρ' : Rn) : Prop := ∀ id L, ρ id = some L → ρ' id = some L
theorem Rn.le_refl (ρ : Rn) : ρ.le ρ := fun _ _ h => h
theorem Rn.le_trans {a b c : Rn} (h : a.le b) (k : b.le c) : a.le c := fun i L x => k i L (h i L x)

mutual
theorem R_mono {ρ ρ' : Rn} (h : ρ.le ρ') : ∀ (x : AV) (v : Value), R ρ x v → R ρ' x v
  | .b _, v, hr => by simpa [R] using hr
  | .i _ _, v, hr => by simpa [R] using hr
  | .s _, v, hr => by simpa [R] using hr
  | .fl _ _, v, hr => by simpa [R] using hr
  | .uk id, v, hr => by
    simp only [R] at hr ⊢; obtain ⟨L, h1, h2⟩ := hr; exact ⟨L, h _ _ h1, h2⟩
  | .p0, v, hr => by simpa [R] using hr
  | .p id off, v, hr => by
    simp only [R] at hr ⊢; obtain ⟨L, h1, h2⟩ := hr; exact ⟨L, h _ _ h1, h2⟩
  | .sl0, v, hr => by simpa [R] using hr
  | .sl id off len cap op, v, hr => by
    simp only [R] at hr ⊢; obtain ⟨L, a, h1, h2⟩ := hr; exact ⟨L, a, h _ _ h1, h2⟩
  | .m0, v, hr => by simpa [R] using hr
  | .m id, v, hr => by
    simp only [R] at hr ⊢; obtain ⟨L, h1, h2⟩ := hr; exact ⟨L, h _ _ h1, h2⟩
  | .f0, v, hr => by simpa [R] using hr
  | .f g a b, v, hr => by
    simp only [R] at hr ⊢; obtain ⟨a', b', h1, h2, h3⟩ := hr
    exact ⟨a', b', h1, Rs_mono h a a' h2, Rs_mono h b b' h3⟩
  | .fm m a b, v, hr => by
    simp only [R] at hr ⊢; obtain ⟨a', b', h1, h2, h3⟩ := hr
    exact ⟨a', b', h1, Rs_mono h a a' h2, Rs_mono h b b' h3⟩
  | .yd id, v, hr => by
    simp only [R] at hr ⊢; obtain ⟨L, h1, h2⟩ := hr; exact ⟨L, h _ _ h1, h2⟩
  | .n0, v, hr => by simpa [R] using hr
  | .ifc t x, v, hr => by
    simp only [R] at hr ⊢; obtain ⟨y, h1, h2⟩ := hr; exact ⟨y, h1, R_mono h x y h2⟩
  | .ag l, v, hr => by
    simp only [R] at hr ⊢; obtain ⟨l', h1, h2⟩ := hr; exact ⟨l', h1, Rs_mono h l l' h2⟩
  | .tu l, v, hr => by
    simp only [R] at hr ⊢; obtain ⟨l', h1, h2⟩ := hr; exact ⟨l', h1, Rs_mono h l l' h2⟩
theorem Rs_mono {ρ ρ' : Rn} (h : ρ.le ρ') : ∀ (x : List AV) (v : List Value), Rs ρ x v → Rs ρ' x v
  | [], v, hr => by simpa [Rs] using hr
  | x :: r, v, hr => by
    simp only [Rs] at hr ⊢; obtain ⟨y, s, h1, h2, h3⟩ := hr
    exact ⟨y, s, h1, R_mono h x y h2, Rs_mono h r s h3⟩
end

section
variable {ρ : Rn}
theorem Rs_length : ∀ {x : List AV} {v : List Value}, Rs ρ x v → v.length = x.length := by
  intro x
  induction x with
  | nil => intro v h; simp only [Rs] at h; simp [h]
  | cons a r ih => intro v h; simp only [Rs] at h; obtain ⟨y, s, rfl, _, h3⟩ := h; simp [ih h3]
theorem Rs_get : ∀ {x : List AV} {v : List Value}, Rs ρ x v → ∀ {j : Nat} {a : AV}, x[j]? = some a → ∃ y, v[j]? = some y ∧ R ρ a y := by
  intro x
  induction x with
  | nil => intro v h j a hj; simp at hj
  | cons b r ih =>
    intro v h j a hj
    simp only [Rs] at h; obtain ⟨y, s, rfl, h2, h3⟩ := h
    cases j with
    | zero => simp at hj; subst hj; exact ⟨y, by simp, h2⟩
    | succ j => simp only [List.getElem?_cons_succ] at hj ⊢; exact ih h3 hj
theorem Rs_append : ∀ {x y : List AV} {v w : List Value}, Rs ρ x v → Rs ρ y w → Rs ρ (x ++ y) (v ++ w) := by
  intro x
  induction x with
  | nil => intro y v w h k; simp only [Rs] at h; subst h; simpa using k
  | cons a r ih =>
    intro y v w h k; simp only [Rs] at h; obtain ⟨z, s, rfl, h2, h3⟩ := h
    simp only [List.cons_append, Rs]; exact ⟨z, _, rfl, h2, ih h3 k⟩
theorem Rs_take : ∀ (n : Nat) {x : List AV} {v : List Value}, Rs ρ x v → Rs ρ (x.take n) (v.take n) := by
  intro n
  induction n with
  | zero => intro x v _; simp [Rs]
  | succ n ih =>
    intro x v h
    cases x with
    | nil => simp only [Rs] at h; subst h; simp [Rs]
    | cons a r => simp only [Rs] at h; obtain ⟨y, s, rfl, h2, h3⟩ := h; simp only [List.take_succ_cons, Rs]; exact ⟨y, _, rfl, h2, ih h3⟩
theorem Rs_drop : ∀ (n : Nat) {x : List AV} {v : List Value}, Rs ρ x v → Rs ρ (x.drop n) (v.drop n) := by
  intro n
  induction n with
  | zero => intro x v h; simpa using h
  | succ n ih =>
    intro x v h
    cases x with
    | nil => simp only [Rs] at h; subst h; simp [Rs]
    | cons a r => simp only [Rs] at h; obtain ⟨y, s, rfl, h2, h3⟩ := h; simp only [List.drop_succ_cons]; exact ih h3
theorem Rs_of_get : ∀ {x : List AV} {v : List Value}, v.length = x.length → (∀ (j : Nat) (a : AV) (y : Value), x[j]? = some a → v[j]? = some y → R ρ a y) → Rs ρ x v := by
  intro x
  induction x with
  | nil => intro v h _; simp [Rs]; simpa using h
  | cons a r ih =>
    intro v h k
    cases v with
    | nil => simp at h
    | cons y s =>
      simp only [Rs]
      exact ⟨y, s, rfl, k 0 a y (by simp) (by simp), ih (by simpa using h) fun j b z hb hz => k (j + 1) b z (by simpa using hb) (by simpa using hz)⟩
theorem R_u : R ρ AV.u undef := by simp [AV.u, R, Rs, undef]
theorem R_cells {x : AV} {v : Value} (h : R ρ x v) : Rs ρ x.cells v.cells.toList := by
  cases x with
  | ag l => simp only [R] at h; obtain ⟨l', rfl, h2⟩ := h; simpa [AV.cells, Value.cells] using h2
  | b x => simp only [R] at h; subst h; simp [AV.cells, Value.cells, Rs, R]
  | i k n => simp only [R] at h; subst h; simp [AV.cells, Value.cells, Rs, R]
  | s l => simp only [R] at h; subst h; simp [AV.cells, Value.cells, Rs, R]
  | fl k n => simp only [R] at h; subst h; simp [AV.cells, Value.cells, Rs, R]
  | uk id =>
    have h' := h
    simp only [R] at h; obtain ⟨L, _, _, ⟨k, n, rfl⟩ | ⟨t, rfl⟩⟩ := h <;> simp only [AV.cells, Value.cells, Rs] <;> exact ⟨_, _, rfl, h', rfl⟩
  | p0 => simp only [R] at h; subst h; simp [AV.cells, Value.cells, Rs, R]
  | p id off => simp only [R] at h; obtain ⟨L, h1, rfl⟩ := h; simp [AV.cells, Value.cells, Rs, R, h1]
  | sl0 => simp only [R] at h; subst h; simp [AV.cells, Value.cells, Rs, R]
  | sl id off len cap op =>
    have h' := h
    simp only [R] at h; obtain ⟨L, a, h1, rfl, h3⟩ := h; simp only [AV.cells, Value.cells, Rs]; exact ⟨_, _, rfl, h', rfl⟩
  | m0 => simp only [R] at h; subst h; simp [AV.cells, Value.cells, Rs, R]
  | m id => simp only [R] at h; obtain ⟨L, h1, rfl⟩ := h; simp [AV.cells, Value.cells, Rs, R, h1]
  | f0 => simp only [R] at h; subst h; simp [AV.cells, Value.cells, Rs, R]
  | f g a b =>
    have h' := h
    simp only [R] at h; obtain ⟨a', b', rfl, _⟩ := h; simp only [AV.cells, Value.cells, Rs]; exact ⟨_, _, rfl, h', rfl⟩
  | fm g a b =>
    have h' := h
    simp only [R] at h; obtain ⟨a', b', rfl, _⟩ := h; simp only [AV.cells, Value.cells, Rs]; exact ⟨_, _, rfl, h', rfl⟩
  | yd id =>
    have h' := h
    simp only [R] at h; obtain ⟨L, _, rfl⟩ := h; simp only [AV.cells, Value.cells, Rs]; exact ⟨_, _, rfl, h', rfl⟩
  | n0 => simp only [R] at h; subst h; simp [AV.cells, Value.cells, Rs, R]
  | ifc t x =>
    have h' := h
    simp only [R] at h; obtain ⟨y, rfl, _⟩ := h; simp only [AV.cells, Value.cells, Rs]; exact ⟨_, _, rfl, h', rfl⟩
  | tu l =>
    have h' := h
    simp only [R] at h; obtain ⟨y, rfl, _⟩ := h; simp only [AV.cells, Value.cells, Rs]; exact ⟨_, _, rfl, h', rfl⟩
theorem R_one {x : AV} {v : Value} (h : R ρ x v) (h1 : x.one = true) : v.oneCell' = true := by
  cases x <;> simp only [R, AV.one] at h h1 <;> first
    | (obtain ⟨L, _, _, ⟨k, n, rfl⟩ | ⟨t, rfl⟩⟩ := h <;> rfl)
    | (subst h; rfl)
    | (obtain ⟨L, _, rfl⟩ := h; rfl)
    | (obtain ⟨L, a, _, rfl, _⟩ := h; rfl)
    | (obtain ⟨_, _, rfl, _⟩ := h; rfl)
    | (obtain ⟨_, rfl, _⟩ := h; rfl)
    | (simp at h1)
end

/-- an object lies where ρ says -/
def ObjC (ρ : Rn) (w : World) (L : Loc) : AObj → Prop
  | .row e n cs op => ∃ (c : Array Value) (fr : Nat × Nat), w.heap[L.b]? = some (.cells c e fr) ∧ ((∀ i, i < c.size → ¬ (fr.1 ≤ i ∧ i < fr.2)) ∧ (op = none → fr = (0, 0))) ∧
      (∀ i v, cs.get i = some v → ∃ x, c[L.o + i]? = some x ∧ R ρ v x) ∧
      (match op with
       | none => L.o + n ≤ c.size
       | some sz => c.size = L.o + n + L.tl * sz)
  | .ro cs => ∃ (c : Array Value) (e : Nat) (fr : Nat × Nat), w.heap[L.b]? = some (.cells c e fr) ∧ (∀ i v, cs.get i = some v → ∃ x, c[L.o + i]? = some x ∧ R ρ v x)
  | .map es => ∃ (c : Array MapEntry) (k : Nat), w.heap[L.b]? = some (.map c k) ∧ Rs ρ (es.map (·.1)) (c.toList.map (·.key)) ∧ Rs ρ (es.map (·.2)) (c.toList.map (·.val))
  | .loop st pend nt e ps ca cb => ∃ r : Loop, w.heap[L.b]? = some (.loop r) ∧ r.state = st ∧ r.pending = pend ∧ r.tmps.size = nt ∧ (∀ n, R ρ ((e.get n).getD .u) (r.tmps.getD n undef)) ∧ r.params.toList = ps ∧ r.assign = ca ∧ r.body = cb

theorem ObjC_mono {ρ ρ' : Rn} (h : ρ.le ρ') {w : World} {L : Loc} {o : AObj} (ho : ObjC ρ w L o) : ObjC ρ' w L o := by
  cases o with
  | row e n cs op =>
    obtain ⟨c, fr, h1, h2, h3, h4⟩ := ho
    exact ⟨c, fr, h1, h2, fun i v hv => let ⟨x, hx, hr⟩ := h3 i v hv; ⟨x, hx, R_mono h _ _ hr⟩, h4⟩
  | ro cs =>
    obtain ⟨c, e, fr, h1, h3⟩ := ho
    exact ⟨c, e, fr, h1, fun i v hv => let ⟨x, hx, hr⟩ := h3 i v hv; ⟨x, hx, R_mono h _ _ hr⟩⟩
  | map es =>
    obtain ⟨c, k, h1, h2, h3⟩ := ho
    exact ⟨c, k, h1, Rs_mono h _ _ h2, Rs_mono h _ _ h3⟩
  | loop st pend nt e ps ca cb =>
    obtain ⟨r, h1, h2, h3, h4, h5, h6⟩ := ho
    exact ⟨r, h1, h2, h3, h4, fun n => R_mono h _ _ (h5 n), h6⟩
theorem ObjC_lt {ρ : Rn} {w : World} {L : Loc} {o : AObj} (ho : ObjC ρ w L o) : L.b < w.heap.size := by
  cases o with
  | row e n cs op => obtain ⟨c, fr, h1, _⟩ := ho; exact (Array.getElem?_eq_some_iff.1 h1).1
  | ro cs => obtain ⟨c, e, fr, h1, _⟩ := ho; exact (Array.getElem?_eq_some_iff.1 h1).1
  | map es => obtain ⟨c, k, h1, _⟩ := ho; exact (Array.getElem?_eq_some_iff.1 h1).1
  | loop => obtain ⟨r, h1, _⟩ := ho; exact (Array.getElem?_eq_some_iff.1 h1).1
theorem ObjC_same {ρ : Rn} {w w' : World} {L : Loc} {o : AObj} (ho : ObjC ρ w L o) (h : w'.heap[L.b]? = w.heap[L.b]?) : ObjC ρ w' L o := by
  cases o <;> simp only [ObjC, h] at ho ⊢ <;> exact ho

/-- the abstract heap is a true word of the world -/
structure Conc (ρ : Rn) (s : St) (w : World) : Prop where
  obj : ∀ id o, s.heap.get id = some o → ∃ L, ρ id = some L ∧ ObjC ρ w L o
  inj : ∀ id id' o o' L L', s.heap.get id = some o → s.heap.get id' = some o' → o.own = true → ρ id = some L → ρ id' = some L' → L.b = L'.b → id = id'

/-- the blocks that may be written -/
def Own (ρ : Rn) (s : St) (b : Nat) : Prop := ∃ id o L, s.heap.get id = some o ∧ o.own = true ∧ ρ id = some L ∧ L.b = b

/-- the blocks that are named -/
def Live (ρ : Rn) (s : St) (b : Nat) : Prop := ∃ id o L, s.heap.get id = some o ∧ ρ id = some L ∧ L.b = b
theorem Own.live {ρ : Rn} {s : St} {b : Nat} (h : Own ρ s b) : Live ρ s b := let ⟨id, o, L, h1, _, h3, h4⟩ := h; ⟨id, o, L, h1, h3, h4⟩

/-- what a piece of a run does -/
structure Chg (ρ : Rn) (s : St) (w : World) (ρ' : Rn) (s' : St) (w' : World) : Prop where
  os : w'.os = w.os
  tape : w'.tape = w.tape
  output : w'.output = w.output
  size : w.heap.size ≤ w'.heap.size
  next : s.next ≤ s'.next
  same : ∀ b, b < w.heap.size → ¬ Own ρ s b → w'.heap[b]? = w.heap[b]?
  own : ∀ b, b < w.heap.size → Own ρ' s' b → Own ρ s b
  live : ∀ b, b < w.heap.size → Live ρ' s' b → Live ρ s b
  out : ∀ id, ¬ (s.next ≤ id ∧ id < s'.next) → ρ' id = ρ id

/-- no name between is given yet -/
def Free (ρ : Rn) (s s' : St) : Prop := ∀ id, s.next ≤ id → id < s'.next → ρ id = none

theorem Chg.refl (ρ : Rn) (s : St) (w : World) : Chg ρ s w ρ s w := ⟨rfl, rfl, rfl, Nat.le_refl _, Nat.le_refl _, fun _ _ _ => rfl, fun _ _ h => h, fun _ _ h => h, fun _ _ => rfl⟩
theorem Chg.drew {ρ : Rn} {s : St} {w : World} {ρ' : Rn} {s' : St} {w' : World} (h : Chg ρ s w ρ' s' w') : Chg ρ s w ρ' s' w'.drew :=
  ⟨h.os, h.tape, h.output, h.size, h.next, h.same, h.own, h.live, h.out⟩
theorem Chg.trans {ρ ρ₁ ρ₂ : Rn} {s s₁ s₂ : St} {w w₁ w₂ : World} (h : Chg ρ s w ρ₁ s₁ w₁) (k : Chg ρ₁ s₁ w₁ ρ₂ s₂ w₂) : Chg ρ s w ρ₂ s₂ w₂ where
  os := k.os.trans h.os
  tape := k.tape.trans h.tape
  output := k.output.trans h.output
  size := Nat.le_trans h.size k.size
  next := Nat.le_trans h.next k.next
  same b hb hn := (k.same b (Nat.lt_of_lt_of_le hb h.size) fun ho => hn (h.own b hb ho)).trans (h.same b hb hn)
  own b hb ho := h.own b hb (k.own b (Nat.lt_of_lt_of_le hb h.size) ho)
  live b hb ho := h.live b hb (k.live b (Nat.lt_of_lt_of_le hb h.size) ho)
  out id hn := by
    have h1 := h.next
    have h2 := k.next
    rw [k.out id (fun hh => hn ⟨by omega, hh.2⟩), h.out id (fun hh => hn ⟨hh.1, by omega⟩)]
theorem Chg.le {ρ ρ' : Rn} {s s' : St} {w w' : World} (h : Chg ρ s w ρ' s' w') (hf : Free ρ s s') : ρ.le ρ' := by
  intro id L hL
  by_cases hn : s.next ≤ id ∧ id < s'.next
  · rw [hf id hn.1 hn.2] at hL; cases hL
  · rw [h.out id hn]; exact hL
theorem Free.left {ρ : Rn} {s s₁ s₂ : St} (h : Free ρ s s₂) (h2 : s₁.next ≤ s₂.next) : Free ρ s s₁ := fun id a b => h id a (by omega)
theorem Free.right {ρ ρ₁ : Rn} {s s₁ s₂ : St} {w w₁ : World} (h : Free ρ s s₂) (k : Chg ρ s w ρ₁ s₁ w₁) : Free ρ₁ s₁ s₂ := fun id a b => by
  have := k.next
  rw [k.out id (by omega)]; exact h id (by omega) b
end Go.Av
