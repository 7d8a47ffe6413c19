/-
  What is proved: what the abstract run of a region whose order is drawn says of each of its operations: heaps with objects laid, the run's steps, which heap a reading may meet. No condition.
-/
import Derived.Test.YtpdmljkmfdkfgaaGreatEvR
namespace Go.Ev

theorem hasN_iff {i : Nat} : ∀ {l : List Nat}, hasN i l = true ↔ i ∈ l
  | [] => by simp [hasN]
  | j :: l => by
    simp only [hasN]
    cases hb : Nat.beq i j with
    | true => simp [beq_iff.1 hb]
    | false =>
      have : i ≠ j := fun e => by rw [beq_iff.2 e] at hb; cases hb
      simp [this, hasN_iff (l := l)]

/-- A heap with those of the objects made that are done. -/
noncomputable def layS (S : Nat → Bool) (h : HL) : List Pd → Hp
  | [] => h.h
  | p :: ps => bif S p.i && !hasN p.i h.laid then hAdd (layS S h ps) p.id p.o else layS S h ps

theorem layBefore_eq (b : Nat) (h : HL) : ∀ ps, layBefore b h ps = layS (fun i => b.testBit i) h ps
  | [] => rfl
  | p :: ps => by simp only [layBefore, layS, layBefore_eq b h ps]
theorem layRest_eq (h : HL) : ∀ ps, layRest h ps = layS (fun _ => true) h ps
  | [] => rfl
  | p :: ps => by
    simp only [layRest, layS, layRest_eq h ps, Bool.true_and]
    cases hasN p.i h.laid <;> rfl
theorem layS_congr {S S' : Nat → Bool} {h : HL} : ∀ {ps : List Pd}, (∀ p ∈ ps, S p.i = S' p.i) → layS S h ps = layS S' h ps
  | [], _ => rfl
  | p :: ps, hs => by simp only [layS]; rw [hs p (by simp), layS_congr fun q hq => hs q (by simp [hq])]

theorem hAdd_get {h : Hp} {id j : Nat} {o : AObj} (hid : id < 1000000000000) : (hAdd h id o).get j = if j = id then some o else h.get j := by
  cases h with
  | mk tr nx =>
    simp only [hAdd, Hp.get]
    rw [Tr.get_put _ _ _ _ _ (by unfold dep; omega)]
@[simp] theorem hAdd_nx (h : Hp) (id : Nat) (o : AObj) : (hAdd h id o).nx = h.nx := rfl

theorem layS_nx (S : Nat → Bool) (h : HL) : ∀ ps, (layS S h ps).nx = h.h.nx
  | [] => rfl
  | p :: ps => by
    simp only [layS]
    cases (S p.i && !hasN p.i h.laid) with
    | true => simp only [cond_true, hAdd_nx]; exact layS_nx S h ps
    | false => simp only [cond_false]; exact layS_nx S h ps

/-- The objects made of a region: each at its place. -/
structure PdsOk (base n : Nat) (ps : List Pd) : Prop where
  id : ∀ p ∈ ps, p.i < n ∧ p.id = base + p.i
  nd : ps.Pairwise fun p q => p.i ≠ q.i

theorem PdsOk.tail {base n : Nat} {p : Pd} {ps : List Pd} (h : PdsOk base n (p :: ps)) : PdsOk base n ps := ⟨fun q hq => h.id q (by simp [hq]), (List.pairwise_cons.1 h.nd).2⟩
theorem PdsOk.uniq {base n : Nat} : ∀ {ps : List Pd}, PdsOk base n ps → ∀ {p q : Pd}, p ∈ ps → q ∈ ps → p.i = q.i → p = q
  | [], _, _, _, hp, _, _ => by cases hp
  | x :: ps, h, p, q, hp, hq, e => by
    have hx := (List.pairwise_cons.1 h.nd).1
    rcases List.mem_cons.1 hp with rfl | hp' <;> rcases List.mem_cons.1 hq with rfl | hq'
    · rfl
    · exact absurd e (hx q hq')
    · exact absurd e.symm (hx p hp')
    · exact h.tail.uniq hp' hq' e

section lay
variable {S : Nat → Bool} {h : HL} {base n : Nat}

theorem layS_in (hb : base + n < 1000000000000) : ∀ {ps : List Pd}, PdsOk base n ps → ∀ {p : Pd}, p ∈ ps → S p.i = true → p.i ∉ h.laid → (layS S h ps).get p.id = some p.o
  | x :: ps, ok, p, hp, hS, hl => by
    have hx := ok.id x (by simp)
    simp only [layS]
    rcases List.mem_cons.1 hp with rfl | hp'
    · rw [hS, show hasN p.i h.laid = false from Bool.eq_false_iff.2 fun e => hl (hasN_iff.1 e)]
      simp only [Bool.not_false, Bool.and_self, cond_true]
      rw [hAdd_get (by omega), if_pos rfl]
    · have ih := layS_in hb ok.tail hp' hS hl
      cases (S x.i && !hasN x.i h.laid) with
      | false => exact ih
      | true =>
        simp only [cond_true]
        have hne : p.id ≠ x.id := fun e => by
          have h1 := ok.id p (by simp [hp'])
          exact (List.pairwise_cons.1 ok.nd).1 p hp' (by omega)
        rw [hAdd_get (by omega), if_neg hne]
        exact ih

theorem layS_out (hb : base + n < 1000000000000) {id : Nat} : ∀ {ps : List Pd}, PdsOk base n ps → (∀ p ∈ ps, S p.i = true → p.i ∉ h.laid → p.id ≠ id) → (layS S h ps).get id = h.h.get id
  | [], _, _ => rfl
  | x :: ps, ok, hno => by
    have hx := ok.id x (by simp)
    have ih := layS_out hb ok.tail fun p hp => hno p (by simp [hp])
    simp only [layS]
    cases hc : (S x.i && !hasN x.i h.laid) with
    | false => exact ih
    | true =>
      rw [Bool.and_eq_true] at hc
      simp only [cond_true]
      have hne : id ≠ x.id := fun e => hno x (by simp) hc.1 (fun hm => by rw [hasN_iff.2 hm] at hc; cases hc.2) e.symm
      rw [hAdd_get (by omega), if_neg hne]
      exact ih

theorem layS_cases (hb : base + n < 1000000000000) {ps : List Pd} (ok : PdsOk base n ps) (id : Nat) :
    (∃ p ∈ ps, S p.i = true ∧ p.i ∉ h.laid ∧ p.id = id ∧ (layS S h ps).get id = some p.o) ∨ ((∀ p ∈ ps, S p.i = true → p.i ∉ h.laid → p.id ≠ id) ∧ (layS S h ps).get id = h.h.get id) := by
  by_cases hx : ∃ p ∈ ps, S p.i = true ∧ p.i ∉ h.laid ∧ p.id = id
  · obtain ⟨p, h1, h2, h3, h4⟩ := hx
    exact .inl ⟨p, h1, h2, h3, h4, by rw [← h4]; exact layS_in hb ok h1 h2 h3⟩
  · have hno : ∀ p ∈ ps, S p.i = true → p.i ∉ h.laid → p.id ≠ id := fun p h1 h2 h3 h4 => hx ⟨p, h1, h2, h3, h4⟩
    exact .inr ⟨hno, layS_out hb ok hno⟩

theorem laidBefore_mem (b : Nat) (laid : List Nat) : ∀ (ps : List Pd) (i : Nat), i ∈ laidBefore b laid ps ↔ i ∈ laid ∨ ∃ p ∈ ps, b.testBit p.i = true ∧ p.i ∉ laid ∧ p.i = i
  | [], i => by simp [laidBefore]
  | p :: ps, i => by
    simp only [laidBefore]
    cases hc : (b.testBit p.i && !hasN p.i laid) with
    | true =>
      rw [Bool.and_eq_true] at hc
      have hn : p.i ∉ laid := fun hm => by rw [hasN_iff.2 hm] at hc; cases hc.2
      simp only [cond_true, List.mem_cons, laidBefore_mem b laid ps i]
      constructor
      · rintro (rfl | c | ⟨q, q1, q2, q3, q4⟩)
        · exact .inr ⟨p, .inl rfl, hc.1, hn, rfl⟩
        · exact .inl c
        · exact .inr ⟨q, .inr q1, q2, q3, q4⟩
      · rintro (c | ⟨q, rfl | q1, q2, q3, q4⟩)
        · exact .inr (.inl c)
        · exact .inl q4.symm
        · exact .inr (.inr ⟨q, q1, q2, q3, q4⟩)
    | false =>
      simp only [cond_false, laidBefore_mem b laid ps i]
      constructor
      · rintro (c | ⟨q, q1, q2, q3, q4⟩)
        · exact .inl c
        · exact .inr ⟨q, by simp [q1], q2, q3, q4⟩
      · rintro (c | ⟨q, q1, q2, q3, q4⟩)
        · exact .inl c
        · rcases List.mem_cons.1 q1 with rfl | q1'
          · rw [q2, show hasN q.i laid = false from Bool.eq_false_iff.2 fun e => q3 (hasN_iff.1 e)] at hc; cases hc
          · exact .inr ⟨q, q1', q2, q3, q4⟩
end lay

/-! ### the run, step by step -/
/-- The heap that is there while none of these effects is done. -/
noncomputable def curH : List (Nat × HL) → HL → HL
  | [], h => h
  | (_, he) :: A, _ => curH A he

theorem curH_append : ∀ (A B : List (Nat × HL)) (h : HL), curH (A ++ B) h = curH B (curH A h)
  | [], _, _ => rfl
  | (_, he) :: A, B, _ => curH_append A B he

section run
variable {P : Program} {om : OM} {call : CallF} {dsts : List (Option Nat)} {before : List Nat} {base : Nat}

/-- What a run adds. -/
structure Grows (i : Nat) (s s' : DSt) : Prop where
  pds : ∃ l, s'.pds = l ++ s.pds ∧ ∀ p ∈ l, i ≤ p.i
  rds : ∃ l, s'.rds = l ++ s.rds
  old : ∃ l, s'.old = l ++ s.old ∧ (∀ p ∈ l, i ≤ p.1) ∧ curH l s'.h = s.h

theorem Grows.refl (i : Nat) (s : DSt) : Grows i s s := ⟨⟨[], rfl, by simp⟩, ⟨[], rfl⟩, [], rfl, by simp, rfl⟩
theorem Grows.trans {i : Nat} {s s₁ s' : DSt} (a : Grows i s s₁) (b : Grows (i + 1) s₁ s') : Grows i s s' := by
  obtain ⟨⟨l1, e1, m1⟩, ⟨r1, f1⟩, o1, g1, n1, c1⟩ := a
  obtain ⟨⟨l2, e2, m2⟩, ⟨r2, f2⟩, o2, g2, n2, c2⟩ := b
  refine ⟨⟨l2 ++ l1, by rw [e2, e1, List.append_assoc], fun p hp => ?_⟩, ⟨r2 ++ r1, by rw [f2, f1, List.append_assoc]⟩, o2 ++ o1, by rw [g2, g1, List.append_assoc], fun p hp => ?_, by rw [curH_append, c2, c1]⟩
  · rcases List.mem_append.1 hp with c | c
    · have := m2 p c; omega
    · exact m1 p c
  · rcases List.mem_append.1 hp with c | c
    · have := n2 p c; omega
    · exact n1 p c

/-- What stands of a run's state at a place. -/
structure RunInv (before : List Nat) (base i : Nat) (s : DSt) : Prop where
  pds : PdsOk base i s.pds
  old : ∀ p ∈ s.old, p.1 < i
  chain : s.old.Pairwise fun p q => (bitsAt before p.1).testBit q.1 = true

theorem PdsOk.more {i j : Nat} {ps : List Pd} (h : PdsOk base i ps) (hij : i ≤ j) : PdsOk base j ps := ⟨fun p hp => ⟨by have := (h.id p hp).1; omega, (h.id p hp).2⟩, h.nd⟩
theorem RunInv.more {i j : Nat} {s s' : DSt} (h : RunInv before base i s) (hij : i ≤ j) (h1 : s'.pds = s.pds) (h2 : s'.old = s.old) : RunInv before base j s' :=
  ⟨h1 ▸ h.pds.more hij, h2 ▸ fun p hp => by have := h.old p hp; omega, h2 ▸ h.chain⟩

/-- What a step comes to, by the kind of the operation. -/
inductive StepTo (P : Program) (om : OM) (call : CallF) (before : List Nat) (base i : Nat) (o : Oper) (s s' : DSt) (v : AV) : Prop
  | pure (f : TT → OV) (hd : den P om o.op = .pure f) (hf : f s.t = .yes v) (hp : s'.pds = s.pds) (ho : s'.old = s.old) (hh : s'.h = s.h)
  | read (f : TT → Hp → OV) (hd : den P om o.op = .read f) (hr : (⟨i, f s.t, v⟩ : Rd) ∈ s'.rds) (hp : s'.pds = s.pds) (ho : s'.old = s.old) (hh : s'.h = s.h)
  | alloc (f : TT → OA) (ob : AObj) (mk : Nat → AV) (hd : den P om o.op = .alloc f) (hf : f s.t = .yes ob mk) (hv : v = mk (base + i)) (hp : s'.pds = ⟨i, base + i, ob⟩ :: s.pds) (ho : s'.old = s.old) (hh : s'.h = s.h)
  | eff (f : TT → Hp → OVH) (h2 : Hp) (hd : den P om o.op = .eff f) (hf : f s.t (layBefore (bitsAt before i) s.h s.pds) = .yes v h2) (hp : s'.pds = s.pds) (ho : s'.old = (i, s.h) :: s.old)
      (hh : s'.h = ⟨h2, laidBefore (bitsAt before i) s.h.laid s.pds⟩) (ha : ∀ e ∈ s.old, (bitsAt before i).testBit e.1 = true)
  | call (x : Get) (args : List Get) (h2 : Hp) (hd : den P om o.op = .call x args) (hf : call (x s.t) (gets s.t args) (layBefore (bitsAt before i) s.h s.pds) = .yes v h2) (hp : s'.pds = s.pds) (ho : s'.old = (i, s.h) :: s.old)
      (hh : s'.h = ⟨h2, laidBefore (bitsAt before i) s.h.laid s.pds⟩) (ha : ∀ e ∈ s.old, (bitsAt before i).testBit e.1 = true)

theorem drawOp_to {i : Nat} {o : Oper} {put : AV → TT → TT} {s s' : DSt} (h : drawOp call base i (bitsAt before i) (den P om o.op) put s = .yes s') :
    ∃ v, s'.t = put v s.t ∧ StepTo P om call before base i o s s' v ∧ (∃ l, s'.rds = l ++ s.rds) := by
  unfold drawOp at h
  split at h
  · rename_i f hd
    split at h
    · rename_i v hf; injection h with h; subst h; exact ⟨v, rfl, .pure f hd hf rfl rfl rfl, [], rfl⟩
    · cases h
  · rename_i f hd
    split at h
    · rename_i v hf; injection h with h; subst h; exact ⟨v, rfl, .read f hd (by simp) rfl rfl rfl, [⟨i, f s.t, v⟩], rfl⟩
    · cases h
  · rename_i f hd
    split at h
    · rename_i ob mk hf; injection h with h; subst h; exact ⟨mk (base + i), rfl, .alloc f ob mk hd hf rfl rfl rfl rfl, [], rfl⟩
    · cases h
  · rename_i f hd
    cases ha : s.old.all (fun e => (bitsAt before i).testBit e.1) with
    | false => rw [ha] at h; cases h
    | true =>
      rw [ha] at h
      simp only [cond_true] at h
      split at h
      · rename_i v h2 hf; injection h with h; subst h; exact ⟨v, rfl, .eff f h2 hd hf rfl rfl rfl (fun e he => List.all_eq_true.1 ha e he), [], rfl⟩
      · cases h
  · rename_i x args hd
    cases ha : s.old.all (fun e => (bitsAt before i).testBit e.1) with
    | false => rw [ha] at h; cases h
    | true =>
      rw [ha] at h
      simp only [cond_true] at h
      split at h
      · rename_i v h2 hf; injection h with h; subst h; exact ⟨v, rfl, .call x args h2 hd hf rfl rfl rfl (fun e he => List.all_eq_true.1 ha e he), [], rfl⟩
      · cases h
  · cases h

/-- One step: it is not wanted, or it is done. -/
structure StepOk (P : Program) (om : OM) (call : CallF) (dsts : List (Option Nat)) (before : List Nat) (base i : Nat) (o : Oper) (s s' : DSt) (v : AV) : Prop where
  t : s'.t = putT o.dst v s.t
  how : (wantedD dsts o s.t = .yes false ∧ v = .undef ∧ s'.pds = s.pds ∧ s'.old = s.old ∧ s'.h = s.h) ∨ (wantedD dsts o s.t = .yes true ∧ StepTo P om call before base i o s s' v)
  rds : ∃ l, s'.rds = l ++ s.rds

theorem stepD_ok {i : Nat} {o : Oper} {s s' : DSt} (h : stepD P om call dsts before base i o s = .yes s') : ∃ v, StepOk P om call dsts before base i o s s' v := by
  unfold stepD at h
  split at h
  · rename_i hw
    obtain ⟨v, h1, h2, h3⟩ := drawOp_to h
    exact ⟨v, h1, .inr ⟨hw, h2⟩, h3⟩
  · rename_i hw
    injection h with h; subst h
    exact ⟨.undef, rfl, .inl ⟨hw, rfl, rfl, rfl, rfl⟩, [], rfl⟩
  · cases h

theorem StepOk.grows {i : Nat} {o : Oper} {s s' : DSt} {v : AV} (k : StepOk P om call dsts before base i o s s' v) : Grows i s s' := by
  obtain ⟨_, how, rds⟩ := k
  rcases how with ⟨_, _, h1, h2, h3⟩ | ⟨_, h⟩
  · exact ⟨⟨[], by simp [h1], by simp⟩, rds, [], by simp [h2], by simp, h3⟩
  · cases h with
    | pure f hd hf hp ho hh => exact ⟨⟨[], by simp [hp], by simp⟩, rds, [], by simp [ho], by simp, hh⟩
    | read f hd hr hp ho hh => exact ⟨⟨[], by simp [hp], by simp⟩, rds, [], by simp [ho], by simp, hh⟩
    | alloc f ob mk hd hf hv hp ho hh => exact ⟨⟨[⟨i, base + i, ob⟩], by simp [hp], by simp⟩, rds, [], by simp [ho], by simp, hh⟩
    | eff f h2 hd hf hp ho hh ha => exact ⟨⟨[], by simp [hp], by simp⟩, rds, [(i, s.h)], by simp [ho], by simp, rfl⟩
    | call x args h2 hd hf hp ho hh ha => exact ⟨⟨[], by simp [hp], by simp⟩, rds, [(i, s.h)], by simp [ho], by simp, rfl⟩

theorem StepOk.inv {i : Nat} {o : Oper} {s s' : DSt} {v : AV} (k : StepOk P om call dsts before base i o s s' v) (r : RunInv before base i s) : RunInv before base (i + 1) s' := by
  obtain ⟨_, how, rds⟩ := k
  have effCase : s'.pds = s.pds → s'.old = (i, s.h) :: s.old → (∀ e ∈ s.old, (bitsAt before i).testBit e.1 = true) → RunInv before base (i + 1) s' := by
    intro hp ho ha
    refine ⟨hp ▸ r.pds.more (by omega), fun p hpm => ?_, ?_⟩
    · rw [ho] at hpm
      rcases List.mem_cons.1 hpm with rfl | c
      · exact Nat.lt_succ_self _
      · have := r.old p c; omega
    · rw [ho]; exact List.pairwise_cons.2 ⟨fun q hq => ha q hq, r.chain⟩
  rcases how with ⟨_, _, h1, h2, h3⟩ | ⟨_, h⟩
  · exact r.more (by omega) h1 h2
  · cases h with
    | pure f hd hf hp ho hh => exact r.more (by omega) hp ho
    | read f hd hr hp ho hh => exact r.more (by omega) hp ho
    | alloc f ob mk hd hf hv hp ho hh =>
      refine ⟨?_, fun p hpm => by rw [ho] at hpm; have := r.old p hpm; omega, ho ▸ r.chain⟩
      rw [hp]
      refine ⟨fun p hpm => ?_, List.pairwise_cons.2 ⟨fun q hq => ?_, r.pds.nd⟩⟩
      · rcases List.mem_cons.1 hpm with rfl | c
        · exact ⟨Nat.lt_succ_self _, rfl⟩
        · have := r.pds.id p c; exact ⟨by omega, this.2⟩
      · have := (r.pds.id q hq).1
        show i ≠ q.i
        omega
    | eff f h2 hd hf hp ho hh ha => exact effCase hp ho ha
    | call x args h2 hd hf hp ho hh ha => exact effCase hp ho ha

/-- A run's states, and what each operation came to. -/
theorem drawOps_run : ∀ (os : List Oper) (i : Nat) (s s' : DSt), drawOps P om call dsts before base i os s = .yes s' → RunInv before base i s →
    ∃ (st : Nat → DSt) (val : Nat → AV), st i = s ∧ st (i + os.length) = s' ∧ (∀ j, i ≤ j → j ≤ i + os.length → RunInv before base j (st j) ∧ Grows j (st j) s') ∧
      ∀ j o, os[j]? = some o → StepOk P om call dsts before base (i + j) o (st (i + j)) (st (i + j + 1)) (val (i + j))
  | [], i, s, s', h, r => by
    simp only [drawOps] at h
    injection h with h; subst h
    refine ⟨fun _ => s, fun _ => .undef, rfl, rfl, fun j h1 h2 => ?_, fun j o ho => by simp at ho⟩
    have : j = i := by simp at h2; omega
    subst this
    exact ⟨r, Grows.refl _ _⟩
  | o :: os, i, s, s', h, r => by
    simp only [drawOps] at h
    split at h
    · rename_i s₁ h1
      obtain ⟨v, k⟩ := stepD_ok h1
      obtain ⟨st, val, e1, e2, e3, e4⟩ := drawOps_run os (i + 1) s₁ s' h (k.inv r)
      have hst : ∀ j, i + 1 ≤ j → (if j = i then s else st j) = st j := fun j hj => if_neg (by omega)
      refine ⟨fun j => if j = i then s else st j, fun j => if j = i then v else val j, if_pos rfl, ?_, fun j h2 h3 => ?_, fun j o' ho => ?_⟩
      · show (if i + (o :: os).length = i then s else st (i + (o :: os).length)) = s'
        rw [List.length_cons, if_neg (by omega), show i + (os.length + 1) = i + 1 + os.length by omega]; exact e2
      · by_cases hj : j = i
        · subst hj
          simp only [if_true]
          have g1 := (e3 (j + 1) (Nat.le_refl _) (by omega)).2
          rw [e1] at g1
          exact ⟨r, k.grows.trans g1⟩
        · simp only [hst j (by omega)]
          exact e3 j (by omega) (by simp at h3; omega)
      · cases j with
        | zero =>
          simp at ho
          subst ho
          simp only [Nat.add_zero, if_true]
          rw [hst _ (Nat.le_refl _), e1]
          exact k
        | succ j =>
          have := e4 j o' (by simpa using ho)
          simp only [show i + (j + 1) = i + 1 + j by omega]
          rw [hst _ (by omega), hst _ (by omega), if_neg (by omega)]
          exact this
    · cases h

/-! ### readings -/
theorem readsAt_cur {r : Rd} {pds : List Pd} : ∀ (A rest : List (Nat × HL)) (h : HL), (bif readAt before pds r h (A ++ rest) then readsAt before pds r (A ++ rest) else false) = true → (∀ e ∈ A, (bitsAt before r.i).testBit e.1 = false) →
    readAt before pds r (curH A h) rest = true
  | [], rest, h, hr, _ => by
    cases hb : readAt before pds r h rest with
    | true => exact hb
    | false => rw [List.nil_append, hb] at hr; cases hr
  | (e, he) :: A, rest, h, hr, hA => by
    cases hb : readAt before pds r h ((e, he) :: A ++ rest) with
    | false => rw [hb] at hr; cases hr
    | true =>
      rw [hb] at hr
      simp only [cond_true, List.cons_append, readsAt] at hr
      rw [hA (e, he) (by simp)] at hr
      exact readsAt_cur A rest he hr fun e' he' => hA e' (by simp [he'])

theorem readAt_yes {r : Rd} {pds : List Pd} {h : HL} {done : List (Nat × HL)} (hr : readAt before pds r h done = true) (hd : ∀ e ∈ done, (bitsAt before e.1).testBit r.i = false) :
    ∃ u, r.f (layBefore (bitsAt before r.i) h pds) = .yes u ∧ same u r.v = true := by
  unfold readAt at hr
  have : done.any (fun p => (bitsAt before p.1).testBit r.i) = false := by
    rw [Bool.eq_false_iff]
    intro e
    obtain ⟨p, h1, h2⟩ := List.any_eq_true.1 e
    rw [hd p h1] at h2; cases h2
  rw [this] at hr
  simp only [cond_false] at hr
  split at hr
  · rename_i u hu; exact ⟨u, hu, hr⟩
  · cases hr

/-- Where what is done ends. -/
theorem split_uniq {α : Type} {S : α → Bool} : ∀ {A A' B B' : List α}, A ++ B = A' ++ B' → (∀ x ∈ A, S x = false) → (∀ x ∈ A', S x = false) → (∀ x ∈ B, S x = true) → (∀ x ∈ B', S x = true) → A = A' ∧ B = B'
  | [], [], B, B', h, _, _, _, _ => ⟨rfl, h⟩
  | [], x :: A', B, B', h, _, h2, h3, _ => by
    simp only [List.nil_append] at h
    subst h
    have a := h2 x (by simp)
    rw [h3 x (by simp)] at a; cases a
  | x :: A, [], B, B', h, h1, _, _, h4 => by
    simp only [List.nil_append] at h
    subst h
    have a := h1 x (by simp)
    rw [h4 x (by simp)] at a; cases a
  | x :: A, y :: A', B, B', h, h1, h2, h3, h4 => by
    simp only [List.cons_append, List.cons.injEq] at h
    obtain ⟨rfl, h⟩ := h
    obtain ⟨e1, e2⟩ := split_uniq h (fun z hz => h1 z (by simp [hz])) (fun z hz => h2 z (by simp [hz])) h3 h4
    exact ⟨by rw [e1], e2⟩
end run
end Go.Ev
