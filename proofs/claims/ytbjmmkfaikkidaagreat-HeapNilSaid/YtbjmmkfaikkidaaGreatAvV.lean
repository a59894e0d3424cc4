/- Regions that draw their order, part 5: each operation, in whatever order, keeps what holds. Generic: no program in it. -/
import Derived.Test.YtbjmmkfaikkidaaGreatAvU
set_option linter.constructorNameAsVariable false
set_option linter.unusedVariables false
set_option linter.unusedSimpArgs false
namespace Go.Av
open Go.RowKit

section
variable {P : Program} {cx : Cx} {n : Nat} {ops : Array Oper} {nt : Nat} {ks : List KOper} {E : Nat → Env} {S : Nat → St} {V : Nat → AV} {listed : Array Bool}
variable {ρ0 ρ : Rn} {w0 w : World} {ds : List Deferred} {a : Act} {f : Nat}

theorem mk_lt (h : DC P cx n ops nt ks E S V) {j : Nat} (hm : Mk ks E j) : j < ops.size := by
  obtain ⟨k, hk, _⟩ := hm; exact (h.at' hk).1
theorem mk_notWr {j : Nat} (hm : Mk ks E j) {k : KOper} (hk : ks[j]? = some k) (hw : isWr k = true) : False := by
  obtain ⟨k', hk', hc, _⟩ := hm
  rw [hk] at hk'; cases hk'
  rw [isWr_iff] at hw; omega
theorem DC.nextMk (h : DC P cx n ops nt ks E S V) {j : Nat} (hm : Mk ks E j) : (S (j + 1)).next = (S j).next + 1 := by
  obtain ⟨o, _, h2⟩ := h.made hm; rw [h2]

/-- a write, or one that is left out -/
theorem Inv.write (ho : OrcNext cx) (h : DC P cx n ops nt ks E S V) (I : Inv ops ks E S V nt ρ0 w0 ds listed ρ a w f) {i : Nat} (hr : Rdy ops listed i) {k : KOper} (hk : ks[i]? = some k) (hw : isWr k = true) :
    Conc ρ (S i) w ∧ Free ρ (S i) (S (i + 1)) ∧ ∀ ρ' a' w', Conc ρ' (S (i + 1)) w' → Chg ρ (S i) w ρ' (S (i + 1)) w' → RE ρ' (put (edFold listed ks V (E 0) ops.size) k.dst (V i)) a' → a'.tmps.size = nt → a'.defers = ds →
      Inv ops ks E S V nt ρ0 w0 ds (listed.setIfInBounds i true) ρ' a' w' (i + 1) := by
  have hlt := hr.lt
  have hfi : f ≤ i := by
    rcases Nat.lt_or_ge i f with h1 | h1
    · exact absurd ((I.wr i k hk hw).2 h1) hr.new
    · exact h1
  have hnoE : ∀ j q, f ≤ j → j < i → ks[j]? = some q → isWr q = false := by
    intro j q h1 h2 hq
    cases hwq : isWr q with
    | false => rfl
    | true =>
      exfalso
      rcases h.pairs hq hk h2 with ha | hp
      · have := (I.wr j q hq hwq).1 (hr.anc I.down j ha); omega
      · exact pairOk1_wr hp hwq hw
  have hA : ∀ j, f ≤ j → j < i → Mk ks E j → Ld listed j := by
    intro j h1 h2 hm
    obtain ⟨q, hq, hc, _⟩ := hm
    rcases h.pairs hq hk h2 with ha | hp
    · exact hr.anc I.down j ha
    · exact (pairOk1_mk hp (isMk_iff.2 hc) hw).elim
  obtain ⟨c1, c2, c3⟩ := I.disclose h i hfi (by omega) hnoE hA
  -- the names
  have hnm : ∀ j, f ≤ j → Mk ks E j → Ld listed j → j ≠ i → (j < i ∧ (S j).next < (S i).next) ∨ (i < j ∧ (S (i + 1)).next ≤ (S j).next) := by
    intro j h1 hm hL hne
    have hjl := mk_lt h hm
    rcases Nat.lt_or_ge j i with h2 | h2
    · have := h.nexts ho (show j + 1 ≤ i by omega) (by omega)
      rw [h.nextMk hm] at this
      exact .inl ⟨h2, by omega⟩
    · exact .inr ⟨by omega, h.nexts ho (show i + 1 ≤ j by omega) (by omega)⟩
  have hmi : ¬ Mk ks E i := fun hm => mk_notWr hm hk hw
  have hfree : Free ρ (S i) (S (i + 1)) := by
    intro id h1 h2
    have g1 := h.nexts ho hfi (by omega)
    have g2 := h.nexts ho (show i + 1 ≤ ops.size by omega) (Nat.le_refl _)
    refine I.free id (by omega) (by omega) ?_
    intro j hj hm hL hid
    rcases hnm j hj hm hL (fun e => hmi (e ▸ hm)) with ⟨_, h3⟩ | ⟨_, h3⟩ <;> omega
  refine ⟨c1, hfree, ?_⟩
  intro ρ' a' w' hc' hch hre hns hds
  have hle := hch.le hfree
  -- an undisclosed one behind i
  have hund : ∀ j, i + 1 ≤ j → Mk ks E j → Ld listed j → ∃ L o, ρ (S j).next = some L ∧ ρ' (S j).next = some L ∧ S (j + 1) = { heap := (S j).heap.set (S j).next o, next := (S j).next + 1 } ∧ o.own = true ∧ ObjC ρ w L o ∧ ¬ Live ρ (S i) L.b ∧ w0.heap.size ≤ L.b := by
    intro j hj hm hL
    obtain ⟨L, o, u1, u2, u3, u4, u5, u6⟩ := I.und j (by omega) hm hL
    refine ⟨L, o, u1, hle _ _ u1, u2, u3, u4, ?_, u6⟩
    intro hl
    rcases c2 _ hl with hl | ⟨j', L', j1, j2, j3, j4, j5, j6⟩
    · exact u5 hl
    · exact I.apart j' j L' L j1 (by omega) j3 hm j4 hL (by omega) j5 u1 j6
  have hLd : ∀ j, j ≠ i → (Ld (listed.setIfInBounds i true) j ↔ Ld listed j) := by
    intro j hne
    rw [ld_set I.sz hlt]
    exact ⟨fun h => h.resolve_right hne, .inl⟩
  refine
    { sz := by simpa using I.sz
      down := I.down.set I.sz hr
      fle := by omega
      fb := .inr ⟨k, by simpa using hk, hw⟩
      wr := ?_
      conc := hc'
      env := RE_congr (h.put I.down I.sz hr hk) hre
      und := ?_
      apart := ?_
      free := ?_
      nts := hns
      defs := hds
      os := hch.os.trans I.os
      tape := hch.tape.trans I.tape
      output := hch.output.trans I.output
      size := Nat.le_trans I.size hch.size
      same := ?_
      own := ?_
      live := ?_
      out := ?_ }
  · intro j q hq hwq
    by_cases e : j = i
    · subst e; rw [ld_set I.sz hlt]; constructor <;> intro _ <;> first | omega | exact .inr rfl
    · rw [hLd j e, I.wr j q hq hwq]
      constructor
      · intro _; omega
      · intro h1
        rcases Nat.lt_or_ge j f with h2 | h2
        · exact h2
        · have := hnoE j q h2 (by omega) hq; rw [hwq] at this; cases this
  · intro j hj hm hL
    rw [hLd j (by omega)] at hL
    obtain ⟨L, o, u1, u1', u2, u3, u4, u5, u6⟩ := hund j hj hm hL
    have hlt' := ObjC_lt u4
    refine ⟨L, o, u1', u2, u3, ObjC_mono hle (ObjC_same u4 (hch.same _ hlt' fun hown => u5 hown.live)), ?_, u6⟩
    intro hl
    exact u5 (hch.live _ hlt' hl)
  · intro j j' L L' hj hj' hm hm' hL hL' hne e1 e2
    rw [hLd j (by omega)] at hL
    rw [hLd j' (by omega)] at hL'
    obtain ⟨L1, _, v1, v1', _⟩ := hund j hj hm hL
    obtain ⟨L2, _, v2, v2', _⟩ := hund j' hj' hm' hL'
    rw [v1'] at e1; cases e1
    rw [v2'] at e2; cases e2
    exact I.apart j j' L L' (by omega) (by omega) hm hm' hL hL' hne v1 v2
  · intro id h1 h2 h3
    have g1 := h.nexts ho hfi (by omega)
    have g2 := h.next1 ho hlt
    rw [hch.out id (by omega)]
    refine I.free id (by omega) h2 ?_
    intro j hj hm hL hid
    rcases hnm j hj hm hL (fun e => hmi (e ▸ hm)) with ⟨_, h4⟩ | ⟨h4, _⟩
    · omega
    · exact h3 j (by omega) hm ((hLd j (by omega)).2 hL) hid
  · intro b hb hn
    rw [hch.same b (Nat.lt_of_lt_of_le hb I.size) ?_, I.same b hb hn]
    intro hown
    rcases c3 b hown with ho' | ⟨j, L, j1, j2, j3, j4, j5, j6⟩
    · exact hn (I.own b hb ho')
    · obtain ⟨L', o, u1, _, _, _, _, u6⟩ := I.und j j1 j3 j4
      rw [j5] at u1; cases u1; omega
  · intro b hb hown
    rcases c3 b (hch.own b (Nat.lt_of_lt_of_le hb I.size) hown) with ho' | ⟨j, L, j1, j2, j3, j4, j5, j6⟩
    · exact I.own b hb ho'
    · obtain ⟨L', o, u1, _, _, _, _, u6⟩ := I.und j j1 j3 j4
      rw [j5] at u1; cases u1; omega
  · intro b hb hl
    rcases c2 b (hch.live b (Nat.lt_of_lt_of_le hb I.size) hl) with ho' | ⟨j, L, j1, j2, j3, j4, j5, j6⟩
    · exact I.live b hb ho'
    · obtain ⟨L', o, u1, _, _, _, _, u6⟩ := I.und j j1 j3 j4
      rw [j5] at u1; cases u1; omega
  · intro id hn
    have g1 := h.nexts ho (show 0 ≤ i by omega) (by omega)
    have g2 := h.nexts ho (show i + 1 ≤ ops.size by omega) (Nat.le_refl _)
    rw [hch.out id (fun h1 => hn ⟨by omega, by omega⟩)]
    exact I.out id hn

/-- one that writes nothing, and makes nothing -/
theorem Inv.still (h : DC P cx n ops nt ks E S V) (I : Inv ops ks E S V nt ρ0 w0 ds listed ρ a w f) {i : Nat} (hr : Rdy ops listed i) {k : KOper} (hk : ks[i]? = some k) (hw : isWr k = false) (hmi : ¬ Mk ks E i)
    {a' : Act} {w' : World} (hc' : Conc ρ (S f) w') (hch : Chg ρ (S f) w ρ (S f) w') (hre : RE ρ (put (edFold listed ks V (E 0) ops.size) k.dst (V i)) a') (hns : a'.tmps.size = nt) (hds : a'.defers = ds) :
    Inv ops ks E S V nt ρ0 w0 ds (listed.setIfInBounds i true) ρ a' w' f := by
  have hlt := hr.lt
  have hLd : ∀ j, j ≠ i → (Ld (listed.setIfInBounds i true) j ↔ Ld listed j) := by
    intro j hne
    rw [ld_set I.sz hlt]
    exact ⟨fun h => h.resolve_right hne, .inl⟩
  refine
    { sz := by simpa using I.sz
      down := I.down.set I.sz hr
      fle := I.fle
      fb := I.fb
      wr := ?_
      conc := hc'
      env := RE_congr (h.put I.down I.sz hr hk) hre
      und := ?_
      apart := ?_
      free := ?_
      nts := hns
      defs := hds
      os := hch.os.trans I.os
      tape := hch.tape.trans I.tape
      output := hch.output.trans I.output
      size := Nat.le_trans I.size hch.size
      same := ?_
      own := I.own
      live := I.live
      out := I.out }
  · intro j q hq hwq
    have hne : j ≠ i := by
      rintro rfl; rw [hk] at hq; cases hq; rw [hw] at hwq; cases hwq
    rw [hLd j hne]; exact I.wr j q hq hwq
  · intro j hj hm hL
    rw [hLd j (fun e => hmi (e ▸ hm))] at hL
    obtain ⟨L, o, u1, u2, u3, u4, u5, u6⟩ := I.und j hj hm hL
    exact ⟨L, o, u1, u2, u3, ObjC_same u4 (hch.same _ (ObjC_lt u4) fun hown => u5 hown.live), u5, u6⟩
  · intro j j' L L' hj hj' hm hm' hL hL' hne e1 e2
    rw [hLd j (fun e => hmi (e ▸ hm))] at hL
    rw [hLd j' (fun e => hmi (e ▸ hm'))] at hL'
    exact I.apart j j' L L' hj hj' hm hm' hL hL' hne e1 e2
  · intro id h1 h2 h3
    refine I.free id h1 h2 fun j hj hm hL => h3 j hj hm ((hLd j (fun e => hmi (e ▸ hm))).2 hL)
  · intro b hb hn
    rw [hch.same b (Nat.lt_of_lt_of_le hb I.size) (fun ho => hn (I.own b hb ho))]
    exact I.same b hb hn

/-- one that makes memory -/
theorem Inv.make (ho : OrcNext cx) (h : DC P cx n ops nt ks E S V) (I : Inv ops ks E S V nt ρ0 w0 ds listed ρ a w f) {i : Nat} (hr : Rdy ops listed i) {k : KOper} (hk : ks[i]? = some k) (hm : Mk ks E i) {o : AObj} (hown : o.own = true)
    (hS : S (i + 1) = { heap := (S i).heap.set (S i).next o, next := (S i).next + 1 }) :
    ρ (S i).next = none ∧ ∀ ρ' a' w', Conc ρ' { heap := (S f).heap.set (S i).next o, next := (S i).next + 1 } w' → Chg ρ { heap := (S f).heap, next := (S i).next } w ρ' { heap := (S f).heap.set (S i).next o, next := (S i).next + 1 } w' →
      RE ρ' (put (edFold listed ks V (E 0) ops.size) k.dst (V i)) a' → a'.tmps.size = nt → a'.defers = ds →
      Inv ops ks E S V nt ρ0 w0 ds (listed.setIfInBounds i true) ρ' a' w' f := by
  have hlt := hr.lt
  have hfi : f ≤ i := by
    rcases Nat.lt_or_ge i f with h1 | h1
    · rcases I.fb with h0 | ⟨q, hq, hwq⟩
      · omega
      · obtain ⟨k', hk', hc, _⟩ := hm
        rw [hk] at hk'; cases hk'
        have hLf : Ld listed (f - 1) := (I.wr _ q hq hwq).2 (by omega)
        have hne : i ≠ f - 1 := by
          rintro rfl; rw [hk] at hq; cases hq; rw [isWr_iff] at hwq; omega
        rcases h.pairs hk hq (by omega) with ha | hp
        · exact absurd (I.down.anc (by have := I.fle; omega) hLf i ha) hr.new
        · exact (pairOk1_mk hp (isMk_iff.2 hc) hwq).elim
    · exact h1
  have hnm : ∀ j, f ≤ j → Mk ks E j → j ≠ i → (S j).next ≠ (S i).next := by
    intro j h1 hmj hne
    have hjl := mk_lt h hmj
    rcases Nat.lt_or_ge j i with h2 | h2
    · have := h.nexts ho (show j + 1 ≤ i by omega) (by omega)
      rw [h.nextMk hmj] at this; omega
    · have := h.nexts ho (show i + 1 ≤ j by omega) (by omega)
      rw [h.nextMk hm] at this; omega
  have hn0 : ρ (S i).next = none := by
    have g1 := h.nexts ho hfi (by omega)
    have g2 := h.nexts ho (show i + 1 ≤ ops.size by omega) (Nat.le_refl _)
    rw [h.nextMk hm] at g2
    refine I.free _ g1 (by omega) ?_
    intro j hj hmj hL hid
    by_cases e : j = i
    · subst e; exact hr.new hL
    · exact hnm j hj hmj e hid.symm
  refine ⟨hn0, ?_⟩
  intro ρ' a' w' hc' hch hre hns hds
  have hkeep : ∀ id, id ≠ (S i).next → ρ' id = ρ id := fun id hne => hch.out id (by simp only; omega)
  have hle : ρ.le ρ' := fun id L hL => by
    rw [hkeep id (by rintro rfl; rw [hn0] at hL; cases hL)]; exact hL
  have hold : ∀ id q, (S f).heap.get id = some q → id ≠ (S i).next := by
    rintro id q hq rfl
    obtain ⟨L, hL, _⟩ := I.conc.obj _ q hq
    rw [hn0] at hL; cases hL
  have hget : ∀ id q, (S f).heap.get id = some q → ((S f).heap.set (S i).next o).get id = some q := fun id q hq => by
    rw [Tr.get_set, if_neg (hold id q hq)]; exact hq
  have hcf : Conc ρ' (S f) w' := by
    refine ⟨fun id q hq => hc'.obj id q (hget id q hq), fun id id' q q' L L' hq hq' => hc'.inj id id' q q' L L' (hget id q hq) (hget id' q' hq')⟩
  obtain ⟨L, hL, hLo⟩ := hc'.obj (S i).next o (by simp [Tr.get_set])
  have hnew : w.heap.size ≤ L.b := by
    rcases Nat.lt_or_ge L.b w.heap.size with h1 | h1
    · obtain ⟨id, q, L', hq, hqo, hl, hb⟩ := hch.own L.b h1 ⟨_, o, L, by simp [Tr.get_set], hown, hL, rfl⟩
      have hid := hold id q hq
      have := hc'.inj (S i).next id o q L L' (by simp [Tr.get_set]) (hget id q hq) hown hL (by rw [hkeep id hid]; exact hl) hb.symm
      exact absurd this.symm hid
    · exact h1
  have hlive : ∀ b, Live ρ' (S f) b → Live ρ (S f) b := by
    rintro b ⟨id, q, L', hq, hl, hb⟩
    exact ⟨id, q, L', hq, by rw [← hkeep id (hold id q hq)]; exact hl, hb⟩
  have hownf : ∀ b, Own ρ' (S f) b → Own ρ (S f) b := by
    rintro b ⟨id, q, L', hq, hqo, hl, hb⟩
    exact ⟨id, q, L', hq, hqo, by rw [← hkeep id (hold id q hq)]; exact hl, hb⟩
  have hsame : ∀ b, b < w.heap.size → ¬ Own ρ (S f) b → w'.heap[b]? = w.heap[b]? := fun b hb hn => hch.same b hb hn
  have hLd : ∀ j, j ≠ i → (Ld (listed.setIfInBounds i true) j ↔ Ld listed j) := by
    intro j hne
    rw [ld_set I.sz hlt]
    exact ⟨fun h => h.resolve_right hne, .inl⟩
  refine
    { sz := by simpa using I.sz
      down := I.down.set I.sz hr
      fle := I.fle
      fb := I.fb
      wr := ?_
      conc := hcf
      env := RE_congr (h.put I.down I.sz hr hk) hre
      und := ?_
      apart := ?_
      free := ?_
      nts := hns
      defs := hds
      os := hch.os.trans I.os
      tape := hch.tape.trans I.tape
      output := hch.output.trans I.output
      size := Nat.le_trans I.size hch.size
      same := ?_
      own := fun b hb ho => I.own b hb (hownf b ho)
      live := fun b hb ho => I.live b hb (hlive b ho)
      out := ?_ }
  · intro j q hq hwq
    have hne : j ≠ i := by
      rintro rfl; exact mk_notWr hm hq hwq
    rw [hLd j hne]; exact I.wr j q hq hwq
  · intro j hj hmj hLj
    by_cases e : j = i
    · subst e
      refine ⟨L, o, hL, hS, hown, hLo, ?_, Nat.le_trans I.size hnew⟩
      rintro ⟨id, q, L', hq, hl, hb⟩
      have := hc'.inj (S j).next id o q L L' (by simp [Tr.get_set]) (hget id q hq) hown hL hl hb.symm
      exact hold id q hq this.symm
    · rw [hLd j e] at hLj
      obtain ⟨L', o', u1, u2, u3, u4, u5, u6⟩ := I.und j hj hmj hLj
      exact ⟨L', o', by rw [hkeep _ (hnm j hj hmj e)]; exact u1, u2, u3, ObjC_mono hle (ObjC_same u4 (hsame _ (ObjC_lt u4) fun hw => u5 hw.live)), fun hl => u5 (hlive _ hl), u6⟩
  · intro j j' L1 L2 hj hj' hm1 hm2 hL1 hL2 hne e1 e2
    by_cases e : j = i
    · subst e
      rw [hL] at e1; cases e1
      rw [hLd j' (Ne.symm hne)] at hL2
      obtain ⟨L', o', u1, _, _, u4, _⟩ := I.und j' hj' hm2 hL2
      rw [hkeep _ (hnm j' hj' hm2 (Ne.symm hne)), u1] at e2; cases e2
      have := ObjC_lt u4; omega
    · rw [hLd j e] at hL1
      obtain ⟨L', o', u1, _, _, u4, _⟩ := I.und j hj hm1 hL1
      rw [hkeep _ (hnm j hj hm1 e), u1] at e1; cases e1
      by_cases e' : j' = i
      · subst e'
        rw [hL] at e2; cases e2
        have := ObjC_lt u4; omega
      · rw [hLd j' e'] at hL2
        obtain ⟨L'', o'', v1, _⟩ := I.und j' hj' hm2 hL2
        rw [hkeep _ (hnm j' hj' hm2 e'), v1] at e2; cases e2
        exact I.apart j j' _ _ hj hj' hm1 hm2 hL1 hL2 hne u1 v1
  · intro id h1 h2 h3
    have hid : id ≠ (S i).next := h3 i hfi hm ((ld_set I.sz hlt).2 (.inr rfl))
    rw [hkeep id hid]
    refine I.free id h1 h2 fun j hj hmj hLj => ?_
    exact h3 j hj hmj ((ld_set I.sz hlt).2 (.inl hLj))
  · intro b hb hn
    rw [hsame b (Nat.lt_of_lt_of_le hb I.size) (fun hw => hn (I.own b hb hw))]
    exact I.same b hb hn
  · intro id hn
    have g1 := h.nexts ho (show 0 ≤ i by omega) (by omega)
    have g2 := h.nexts ho (show i + 1 ≤ ops.size by omega) (Nat.le_refl _)
    rw [h.nextMk hm] at g2
    rw [hkeep id (by omega)]
    exact I.out id hn
end
end Go.Av
