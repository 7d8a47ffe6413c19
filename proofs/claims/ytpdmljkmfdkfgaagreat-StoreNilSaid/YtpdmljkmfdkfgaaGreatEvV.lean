/-
  What is proved: a region whose order is drawn does what its abstract run says (drawOk). The condition: the program's mixed orders are followed.
-/
import Derived.Test.YtpdmljkmfdkfgaaGreatEvU
namespace Go.Ev

/-! ### what stands ahead by the edges -/
/-- One operation's bits, from those of the operations ahead. -/
def bitsOf (acc : Array Nat) (o : Oper) : Nat := o.after.foldl (fun s e => if Region.binds .any e then s ||| 2 ^ e.on ||| acc.getD e.on 0 else s) 0

theorem bitsOf_list (acc : Array Nat) : ∀ (es : List Edge) (s0 j : Nat), (es.foldl (fun s e => if Region.binds .any e then s ||| 2 ^ e.on ||| acc.getD e.on 0 else s) s0).testBit j = true ↔
    s0.testBit j = true ∨ ∃ e ∈ es, Region.binds .any e = true ∧ (e.on = j ∨ (acc.getD e.on 0).testBit j = true)
  | [], s0, j => by simp
  | e :: es, s0, j => by
    simp only [List.foldl_cons]
    rw [bitsOf_list acc es]
    by_cases hb : Region.binds .any e = true
    · rw [if_pos hb]
      simp only [Nat.testBit_or, Bool.or_eq_true, Nat.testBit_two_pow, decide_eq_true_eq]
      constructor
      · rintro (((c | c) | c) | ⟨x, h1, h2, h3⟩)
        · exact .inl c
        · exact .inr ⟨e, by simp, hb, .inl c⟩
        · exact .inr ⟨e, by simp, hb, .inr c⟩
        · exact .inr ⟨x, by simp [h1], h2, h3⟩
      · rintro (c | ⟨x, h1, h2, h3⟩)
        · exact .inl (.inl (.inl c))
        · rcases List.mem_cons.1 h1 with rfl | h1'
          · rcases h3 with c | c
            · exact .inl (.inl (.inr c))
            · exact .inl (.inr c)
          · exact .inr ⟨x, h1', h2, h3⟩
    · rw [if_neg hb]
      constructor
      · rintro (c | ⟨x, h1, h2, h3⟩)
        · exact .inl c
        · exact .inr ⟨x, by simp [h1], h2, h3⟩
      · rintro (c | ⟨x, h1, h2, h3⟩)
        · exact .inl c
        · rcases List.mem_cons.1 h1 with rfl | h1'
          · exact absurd h2 hb
          · exact .inr ⟨x, h1', h2, h3⟩

theorem bitsOf_iff (acc : Array Nat) (o : Oper) (j : Nat) : (bitsOf acc o).testBit j = true ↔ ∃ e ∈ o.after.toList, Region.binds .any e = true ∧ (e.on = j ∨ (acc.getD e.on 0).testBit j = true) := by
  unfold bitsOf
  rw [← Array.foldl_toList, bitsOf_list]
  simp

theorem foldl_push (G : Array Nat → Oper → Nat) : ∀ (l : List Oper) (acc : Array Nat),
    (l.foldl (fun acc o => acc.push (G acc o)) acc).size = acc.size + l.length ∧ (∀ m, m < acc.size → (l.foldl (fun acc o => acc.push (G acc o)) acc)[m]? = acc[m]?) ∧
    ∀ k o, l[k]? = some o → ∃ acc', acc'.size = acc.size + k ∧ (l.foldl (fun acc o => acc.push (G acc o)) acc)[acc.size + k]? = some (G acc' o) ∧ ∀ m, m < acc'.size → (l.foldl (fun acc o => acc.push (G acc o)) acc)[m]? = acc'[m]?
  | [], acc => ⟨rfl, fun m _ => rfl, fun k o h => by simp at h⟩
  | x :: l, acc => by
    simp only [List.foldl_cons]
    obtain ⟨h1, h2, h3⟩ := foldl_push G l (acc.push (G acc x))
    refine ⟨by rw [h1]; simp; omega, fun m hm => ?_, fun k o hk => ?_⟩
    · rw [h2 m (by simp; omega), Array.getElem?_push_lt hm, ← Array.getElem?_eq_getElem]
    · cases k with
      | zero =>
        simp at hk; subst hk
        refine ⟨acc, rfl, ?_, fun m hm => ?_⟩
        · rw [h2 _ (by simp)]; simp
        · rw [h2 m (by simp; omega), Array.getElem?_push_lt hm, ← Array.getElem?_eq_getElem]
      | succ k =>
        obtain ⟨acc', e1, e2, e3⟩ := h3 k o (by simpa using hk)
        refine ⟨acc', by rw [e1]; simp; omega, ?_, e3⟩
        rw [← e2]; congr 1; simp; omega

theorem before_bits {ops : Array Oper} {i : Nat} {o : Oper} (hi : ops[i]? = some o) : ∃ acc : Array Nat, acc.size = i ∧ bitsAt (Region.before ops).toList i = bitsOf acc o ∧ ∀ m, m < i → acc.getD m 0 = bitsAt (Region.before ops).toList m := by
  have e : Region.before ops = ops.toList.foldl (fun acc o => acc.push (bitsOf acc o)) #[] := by
    unfold Region.before
    rw [← Array.foldl_toList]
    rfl
  obtain ⟨_, _, h3⟩ := foldl_push bitsOf ops.toList #[]
  obtain ⟨acc, e1, e2, e3⟩ := h3 i o (by simpa using hi)
  rw [← e] at e2 e3
  refine ⟨acc, by simpa using e1, ?_, fun m hm => ?_⟩
  · unfold bitsAt
    rw [Array.getElem?_toList]
    simp only [List.size_toArray, List.length_nil, Nat.zero_add] at e2
    rw [e2]; rfl
  · unfold bitsAt
    rw [Array.getElem?_toList, e3 m (by rw [e1]; simpa using hm), Array.getD_eq_getD_getElem?]

section
variable {W : World} {om : OM} {P : Program} {call : CallF} {nt : Nat} {ops : Array Oper} {t0 : TT} {h0 : Hp} {w0 : World} {ρ0 : Rho} {a0 : Act} {fin : DSt} {st : Nat → DSt} {val : Nat → AV}

theorem ready_iff {listed : Array Bool} {i : Nat} : i ∈ Region.ready .any ops listed ↔ i < ops.size ∧ listed.getD i true = false ∧ ∃ o, ops[i]? = some o ∧ ∀ e ∈ o.after.toList, Region.binds .any e = true → listed.getD e.on false = true := by
  unfold Region.ready
  rw [List.mem_filter, List.mem_range, Bool.and_eq_true, Bool.not_eq_true']
  refine and_congr Iff.rfl (and_congr Iff.rfl ?_)
  cases ho : ops[i]? with
  | none => simp
  | some o =>
    simp only [Option.map_some, Option.getD_some, Array.all_eq_true', Bool.or_eq_true, Bool.not_eq_true']
    constructor
    · intro h
      refine ⟨o, rfl, fun e he hb => ?_⟩
      rcases h e (by simpa using he) with c | c
      · rw [hb] at c; cases c
      · exact c
    · rintro ⟨o', e1, h⟩ e he
      injection e1 with e1; subst e1
      cases hb : Region.binds .any e with
      | false => exact .inl rfl
      | true => exact .inr (h e (by simpa using he) hb)

/-- How many are not done. -/
def left (n : Nat) (listed : Array Bool) : Nat := ((List.range n).filter fun j => !listed.getD j false).length

theorem filter_lt {α : Type} (p q : α → Bool) : ∀ (l : List α), (∀ x ∈ l, q x = true → p x = true) → (∃ x ∈ l, p x = true ∧ q x = false) → (l.filter q).length < (l.filter p).length
  | [], _, h => by obtain ⟨x, hx, _⟩ := h; cases hx
  | x :: l, hq, h => by
    have le : (l.filter q).length ≤ (l.filter p).length := by
      clear h
      induction l with
      | nil => simp
      | cons y l ih =>
        have ih := ih fun z hz => hq z (by rcases List.mem_cons.1 hz with rfl | c <;> simp [*])
        have := hq y (by simp)
        cases hqy : q y <;> cases hpy : p y <;> simp [hqy, hpy] <;> first | omega | (rw [this hqy] at hpy; cases hpy)
    by_cases hx : p x = true ∧ q x = false
    · simp [hx.1, hx.2]; omega
    · obtain ⟨y, hy, h1, h2⟩ := h
      have hy' : y ∈ l := by
        rcases List.mem_cons.1 hy with rfl | c
        · exact absurd ⟨h1, h2⟩ hx
        · exact c
      have ih := filter_lt p q l (fun z hz => hq z (by simp [hz])) ⟨y, hy', h1, h2⟩
      have := hq x (by simp)
      cases hqx : q x <;> cases hpx : p x <;> simp [hqx, hpx] <;> first | omega | (rw [this hqx] at hpx; cases hpx)

theorem wpAny_of_J {Q : Exit → Act → World → Prop} {r0 : Option Nat} (pl : Plan P om call nt ops (Region.before ops).toList t0 h0 fin st val) (hcall : CallOk W om P call)
    (hQ : ∀ S a w ρ, (∀ j, j < ops.size → S j = true) → J W om nt ops (Region.before ops).toList t0 h0 w0 ρ0 a0 fin val S a w ρ → Q .normal a w) : ∀ (fuel : Nat) (listed : Array Bool) (a : Act) (w : World) (ρ : Rho), listed.size = ops.size → left ops.size listed ≤ fuel →
    J W om nt ops (Region.before ops).toList t0 h0 w0 ρ0 a0 fin val (fun j => listed.getD j false) a w ρ → wpAnyIn (Fd r0) 0 P .any ops Q fuel listed a w := by
  have all : ∀ (listed : Array Bool) (a : Act) (w : World) (ρ : Rho), listed.size = ops.size → Region.ready .any ops listed = [] → ∀ j, j < ops.size → listed.getD j false = true := by
    intro listed a w ρ hsz hr j
    induction j using Nat.strongRecOn with
    | _ j ih =>
      intro hj
      cases hl : listed.getD j false with
      | true => rfl
      | false =>
        exfalso
        have hio : ops[j]? = some ops[j] := Array.getElem?_eq_getElem hj
        have hm : j ∈ Region.ready .any ops listed := by
          refine ready_iff.2 ⟨hj, ?_, ops[j], hio, fun e he hb => ?_⟩
          · rw [Array.getD_eq_getD_getElem?] at hl ⊢
            rw [Array.getElem?_eq_getElem (by omega)] at hl ⊢
            exact hl
          · obtain ⟨acc, _, e2, _⟩ := before_bits hio
            have hbit : (bitsAt (Region.before ops).toList j).testBit e.on = true := by rw [e2]; exact (bitsOf_iff _ _ _).2 ⟨e, he, hb, .inl rfl⟩
            have hlt : e.on < j := by
              rcases Nat.lt_or_ge e.on j with c | c
              · exact c
              · have := Nat.testBit_lt_two_pow (Nat.lt_of_lt_of_le (pl.back j _ hio) (Nat.pow_le_pow_right (by omega) c))
                rw [hbit] at this; cases this
            exact ih e.on hlt (by omega)
        rw [hr] at hm; cases hm
  intro fuel
  induction fuel with
  | zero =>
    intro listed a w ρ hsz hle jj
    have hall : ∀ j, j < ops.size → listed.getD j false = true := fun j hj => by
      cases hl : listed.getD j false with
      | true => rfl
      | false =>
        have : j ∈ (List.range ops.size).filter fun j => !listed.getD j false := List.mem_filter.2 ⟨List.mem_range.2 hj, by rw [hl]; rfl⟩
        have h0 : ((List.range ops.size).filter fun j => !listed.getD j false) = [] := List.eq_nil_of_length_eq_zero (by unfold left at hle; omega)
        rw [h0] at this; cases this
    refine ⟨?_, hQ _ a w ρ hall jj⟩
    cases hr : Region.ready .any ops listed with
    | nil => rfl
    | cons i l =>
      have hm : i ∈ Region.ready .any ops listed := by rw [hr]; simp
      obtain ⟨h1, h2, _⟩ := ready_iff.1 hm
      have := hall i h1
      rw [Array.getD_eq_getD_getElem?, Array.getElem?_eq_getElem (by omega)] at this h2
      simp only [Option.getD_some] at this h2
      rw [this] at h2; cases h2
  | succ fuel ih =>
    intro listed a w ρ hsz hle jj
    refine ⟨fun hr => hQ _ a w ρ (all listed a w ρ hsz hr) jj, fun i him => ?_⟩
    obtain ⟨h1, h2, o, ho, hdeps⟩ := ready_iff.1 him
    have hSi : listed.getD i false = false := by
      rw [Array.getD_eq_getD_getElem?, Array.getElem?_eq_getElem (by omega)] at h2 ⊢
      exact h2
    have hS' : ∀ j, (listed.setIfInBounds i true).getD j false = (listed.getD j false || decide (j = i)) := fun j => by
      rw [Array.getD_eq_getD_getElem?, Array.getD_eq_getD_getElem?]
      by_cases e : j = i
      · subst e; rw [Array.getElem?_setIfInBounds_self_of_lt (by omega)]; simp
      · rw [Array.getElem?_setIfInBounds_ne (fun x => e x.symm)]; simp [e]
    have hdep : ∀ j, (bitsAt (Region.before ops).toList i).testBit j = true → listed.getD j false = true := fun j hj => by
      obtain ⟨acc, e1, e2, e3⟩ := before_bits ho
      rw [e2] at hj
      obtain ⟨e, he, hb, hc⟩ := (bitsOf_iff _ _ _).1 hj
      have hl := hdeps e he hb
      rcases hc with rfl | hc
      · exact hl
      · rcases Nat.lt_or_ge e.on i with c | c
        · rw [e3 _ c] at hc
          exact jj.closed e.on _ (Array.getElem?_eq_getElem (by omega)) hl j hc
        · rw [Array.getD_eq_getD_getElem?, Array.getElem?_eq_none (by omega)] at hc
          simp at hc
    refine J.step pl hcall ho hSi hdep hS' jj fun a' w' ρ' jj' => ih _ a' w' ρ' (by simpa using hsz) ?_ jj'
    have : left ops.size (listed.setIfInBounds i true) < left ops.size listed := by
      unfold left
      refine filter_lt _ _ _ (fun x _ hx => ?_) ⟨i, List.mem_range.2 h1, by rw [hSi]; rfl, by rw [hS' i]; simp⟩
      rw [hS' x] at hx
      simp at hx ⊢
      exact hx.1
    omega

theorem drawOk (hmix : P.follows .mixedOrders = true) : DrawOk W om P := by
  intro call nt ops t t' h h' ρ a w r Q k hcall hd s rh hQ
  unfold drawC at hd
  cases hc : ((ops.toList.map (·.dst)).all (dstOk nt) && regionOk (ops.toList.map (·.dst)) (Region.before ops).toList 0 ops.toList []) with
  | false => rw [hc] at hd; cases hd
  | true =>
    rw [hc] at hd
    simp only [cond_true] at hd
    rw [Bool.and_eq_true] at hc
    obtain ⟨hc1, hc2⟩ := hc
    cases hbig : Nat.blt (h.nx + ops.size) 1000000000000 with
    | false => rw [hbig] at hd; cases hd
    | true =>
      rw [hbig] at hd
      simp only [Bool.not_true, cond_false] at hd
      have hbig := blt_iff.1 hbig
      split at hd
      · rename_i fin hrun
        cases hrd : readsOk (Region.before ops).toList fin with
        | false => rw [hrd] at hd; cases hd
        | true =>
          rw [hrd] at hd
          simp only [cond_true] at hd
          injection hd with e1 e2; subst e1 e2
          have inv0 : RunInv (Region.before ops).toList h.nx 0 ⟨t, ⟨⟨h.tr, h.nx + ops.size⟩, []⟩, [], [], []⟩ := ⟨⟨fun p hp => (by cases hp), List.Pairwise.nil⟩, fun p hp => (by cases hp), List.Pairwise.nil⟩
          obtain ⟨st, val, q1, q2, q3, q4⟩ := drawOps_run ops.toList 0 _ fin hrun inv0
          simp only [Nat.zero_add, Array.length_toList] at q2 q3 q4
          have spec := regionOk_spec ops.toList 0 [] hc2
          simp only [Nat.zero_add] at spec
          have pl : Plan P om call nt ops (Region.before ops).toList t h fin st val := {
            big := hbig
            dst := fun i o ho => List.all_eq_true.1 hc1 o.dst (List.mem_map.2 ⟨o, by have := Array.mem_of_getElem? ho; simpa using this, rfl⟩)
            back := fun i o ho => (spec i o (by simpa using ho)).1
            apart := fun i j oi oj hij hoi hoj hb => (spec j oj (by simpa using hoj)).2.2 i oi hij (by simpa using hoi) hb
            st0 := q1
            stn := q2
            inv := fun j hj => q3 j (Nat.zero_le _) hj
            step := fun j o ho => q4 j o (by simpa using ho)
            reads := fun r hr => List.all_eq_true.1 hrd r hr }
          simp only [Region.schedule, hmix, Bool.true_or, if_true]
          refine wpAnyIn_sound ops.size k _ a _ (wpAny_of_J (ρ0 := ρ) (h0 := h) (w0 := w) (a0 := a) pl hcall (fun S a' w' ρ' hall jj => ?_) ops.size _ a _ ρ (by simp) ?_ ?_)
          · -- all is done
            obtain ⟨tS, s', hL⟩ := jj.tmp
            obtain ⟨A, rest, hold, hA, _, hgo, _⟩ := jj.heap
            have oldlt := (pl.inv ops.size (Nat.le_refl _)).1.old
            rw [pl.stn] at oldlt
            have hAn : A = [] := by
              cases A with
              | nil => rfl
              | cons e A =>
                have h1 := oldlt e (by rw [hold]; simp)
                have h2 := hA e (by simp)
                rw [hall _ h1] at h2; cases h2
            subst hAn
            have hlay : layS S (curH [] fin.h) fin.pds = layRest fin.h fin.pds := by
              rw [layRest_eq]
              exact layS_congr fun p hp => hall _ (pl.pds.id p hp).1
            rw [hlay] at hgo
            have hst : StRel ρ' nt fin.t a' := by
              refine ⟨fun x hx => ?_, s'.sz⟩
              have e1 := (hL x hx).congr (S' := fun j => decide (j < ops.size)) fun j o ho _ => by
                have := (Array.getElem?_eq_some_iff.1 ho).1
                rw [hall j this]; simp [this]
              have e2 := pl.text ops.size (Nat.le_refl _) x hx
              rw [pl.stn] at e2
              rw [← e1.uniq e2]
              exact s'.tr x hx
            exact hQ ρ' a' w' hst jj.df hgo
          · exact Nat.le_trans (List.length_filter_le _ _) (by simp)
          · -- nothing is done
            have hS : ∀ j, (Array.replicate ops.size false).getD j false = false := fun j => by
              rw [Array.getD_eq_getD_getElem?, Array.getElem?_replicate]; split <;> rfl
            have e0 : curH fin.old fin.h = ⟨⟨h.tr, h.nx + ops.size⟩, []⟩ := by
              obtain ⟨l, f1, _, f3⟩ := (pl.inv 0 (Nat.zero_le _)).2.old
              rw [pl.st0] at f1 f3
              simp only [List.append_nil] at f1
              rw [f1]; exact f3
            have hlay : ∀ ps : List Pd, layS (fun j => (Array.replicate ops.size false).getD j false) ⟨⟨h.tr, h.nx + ops.size⟩, []⟩ ps = ⟨h.tr, h.nx + ops.size⟩ := fun ps => by
              induction ps with
              | nil => rfl
              | cons p ps ih =>
                rw [layS, hS, Bool.false_and, cond_false]
                exact ih
            have hgo : Goes W om ρ h w ρ (⟨h.tr, h.nx + ops.size⟩ : Hp) { w with drawn := w.drawn + 1 } := by
              have hrel : HRel W om ρ (⟨h.tr, h.nx + ops.size⟩ : Hp) { w with drawn := w.drawn + 1 } :=
                ⟨rh.objs, rh.inj, fun i hi => rh.fresh i (by simp at hi; omega), rh.old, rh.size, rh.os, rh.output, rh.tape, rh.om⟩
              exact ⟨Rho.le_refl _, hrel, fun _ _ _ => rfl, Nat.le_refl _, fun i o L hi hL => .inr ⟨i, o, L, hi, hL, rfl⟩, by simp, fun _ _ => rfl⟩
            refine ⟨fun j o ho hj => (by have hj : (Array.replicate ops.size false).getD j false = true := hj; rw [hS j] at hj; cases hj), ⟨t, s, fun x _ => .inr ⟨fun j o ho hj => (by have hj : (Array.replicate ops.size false).getD j false = true := hj; rw [hS j] at hj; cases hj), rfl⟩⟩, rfl, ⟨fin.old, [], by simp, fun e _ => hS _, fun e he => (by cases he), ?_, ?_, ?_, ?_⟩, fun p hp _ => ?_⟩
            · rw [e0, hlay]; exact hgo
            · intro p hp _
              rw [e0]
              show (Hp.get ⟨h.tr, h.nx + ops.size⟩ p.id) = none
              cases hg : Hp.get ⟨h.tr, h.nx + ops.size⟩ p.id with
              | none => rfl
              | some ob =>
                obtain ⟨L, _, c1, _⟩ := rh.objs p.id ob hg
                have := rh.lt_nx c1
                have := (pl.pds.id p hp).2
                omega
            · intro j hj; rw [e0] at hj; cases hj
            · rw [e0]; exact Nat.le_refl _
            · exact rh.fresh _ (by have := (pl.pds.id p hp).2; omega)
      · cases hd
end
end Go.Ev
