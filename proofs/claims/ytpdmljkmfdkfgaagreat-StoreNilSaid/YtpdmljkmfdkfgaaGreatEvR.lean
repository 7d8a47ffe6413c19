/-
  What is proved: a region whose order is drawn does what its abstract run says, in whatever order it is done (drawOk), given that the program's mixed orders are followed. No other condition.
-/
import Derived.Test.YtpdmljkmfdkfgaaGreatEvQ
import Derived.OrdersIn
namespace Go.Ev

section
variable {W : World} {om : OM} {P : Program} {ρ ρ' : Rho} {h h' : Hp} {w w' : World} {t t' : TT} {a : Act} {call : CallF} {nt : Nat}

/-! ### steps of one operation -/
theorem wpIn_next {o : Oper} {r0 : Option Nat} {next : Act → World → Prop} {Q : Exit → Act → World → Prop} {r : Next} {x : Value} (hnd : ∀ c, o.op ≠ .defer c) (hr : (execOp a.eval o).run P w = .ok r w') (hx : nextV r = some x)
    (hn : next (a.put o.dst x) w') : o.wpIn (Fd r0) 0 P a w next Q := by
  refine ⟨fun _ _ => trivial, ?_⟩
  rw [Oper.semAt_eq _ _ _ hnd, hr]
  cases r <;> first
    | (injection hx with hx; subst hx; exact hn)
    | cases hx

theorem wpIn_call {o : Oper} {r0 : Option Nat} {next : Act → World → Prop} {Q : Exit → Act → World → Prop} {v : AV} {h₁ : Hp} (hnd : ∀ c, o.op ≠ .defer c) (hr : CallRes W om P ρ h w v h₁ ((execOp a.eval o).run P w))
    (hn : ∀ ρ' x w', VRel ρ' v x → Goes W om ρ h w ρ' h₁ w' → next (a.put o.dst x) w') : o.wpIn (Fd r0) 0 P a w next Q := by
  refine ⟨fun _ _ => trivial, ?_⟩
  rw [Oper.semAt_eq _ _ _ hnd]
  generalize (execOp a.eval o).run P w = res at hr
  cases res with
  | halt x w' => exact hr.elim
  | ok nx w₁ =>
    cases nx <;> first | exact hr.elim | skip
    case value y =>
      obtain ⟨ρ', h1, h2⟩ := hr
      exact hn ρ' y w₁ h1 h2
    case enter f args' =>
      refine ⟨fun hd => (by cases hd), CallsIn.mono (F := Fence.wide) hr fun e w' he => ?_⟩
      cases e with
      | returned y => obtain ⟨ρ', h1, h2⟩ := he; exact hn ρ' y w' h1 h2
      | panicked ch => exact he.elim
      | outgrown => exact he.elim
    case round l f tmps assign body =>
      refine ⟨fun hd => (by cases hd), RoundIn.mono (F := Fence.wide) hr fun e w' he => ?_⟩
      cases e with
      | returned y => obtain ⟨ρ', h1, h2⟩ := he; exact hn ρ' y w' h1 h2
      | panicked ch => exact he.elim
      | outgrown => exact he.elim

/-! ### the same value -/
mutual
theorem same_rel {ρ : Rho} : ∀ (u v : AV) (x : Value), same u v = true → VRel ρ u x → VRel ρ v x
  | .bool a, v, x, hs, hr => by
    cases v <;> simp only [same] at hs <;> first | (cases hs; done) | skip
    rw [beq_iff_eq] at hs; subst hs; exact hr
  | .int k a, v, x, hs, hr => by
    cases v <;> simp only [same] at hs <;> first | (cases hs; done) | skip
    rw [Bool.and_eq_true, eqI_eq, beq_iff_eq] at hs
    have h1 := eqK_iff.1 hs.1
    rw [← h1, ← hs.2]; exact hr
  | .at a, v, x, hs, hr => by
    cases v <;> simp only [same] at hs <;> first | (cases hs; done) | skip
    rename_i b
    split at hs <;> first
      | (cases hs; done)
      | exact hr
      | (have e := eqS_iff.1 hs; subst e; exact hr)
      | (simp only [Bool.and_eq_true, beq_iff] at hs; obtain ⟨e1, e2⟩ := hs; subst e1 e2; exact hr)
      | (simp only [Bool.and_eq_true, beq_iff] at hs; obtain ⟨⟨⟨e1, e2⟩, e3⟩, e4⟩ := hs; subst e1 e2 e3 e4; exact hr)
      | (simp only [beq_iff] at hs; subst hs; exact hr)
  | .agg cs, v, x, hs, hr => by
    cases v <;> simp only [same] at hs <;> first | (cases hs; done) | skip
    obtain ⟨l, rfl, h2⟩ := hr; exact ⟨l, rfl, sameL_rel cs _ l hs h2⟩
  | .tup cs, v, x, hs, hr => by
    cases v <;> simp only [same] at hs <;> first | (cases hs; done) | skip
    obtain ⟨l, rfl, h2⟩ := hr; exact ⟨l, rfl, sameL_rel cs _ l hs h2⟩
  | .fn f xs ys, v, x, hs, hr => by
    cases v <;> try (cases f <;> simp only [same] at hs <;> cases hs; done)
    rename_i g us vs
    cases f <;> cases g <;> simp only [same] at hs <;> first | (cases hs; done) | skip
    simp only [Bool.and_eq_true, beq_iff] at hs
    obtain ⟨⟨e1, e2⟩, e3⟩ := hs
    subst e1
    obtain ⟨l, m, rfl, r1, r2⟩ := hr
    exact ⟨l, m, rfl, sameL_rel xs us l e2 r1, sameL_rel ys vs m e3 r2⟩
  | .iface d u, v, x, hs, hr => by
    cases v <;> simp only [same] at hs <;> first | (cases hs; done) | skip
    rw [Bool.and_eq_true, beq_iff] at hs
    obtain ⟨e1, e2⟩ := hs
    subst e1
    obtain ⟨y, rfl, h2⟩ := hr
    exact ⟨y, rfl, same_rel u _ y e2 h2⟩
theorem sameL_rel {ρ : Rho} : ∀ (us vs : List AV) (l : List Value), sameL us vs = true → VRelL ρ us l → VRelL ρ vs l
  | [], vs, l, hs, hr => by
    cases vs <;> simp only [sameL] at hs <;> first | (cases hs; done) | exact hr
  | u :: us, vs, l, hs, hr => by
    cases vs with
    | nil => simp only [sameL] at hs; cases hs
    | cons v vs =>
      simp only [sameL, Bool.and_eq_true] at hs
      obtain ⟨x, xs, rfl, h1, h2⟩ := hr
      exact ⟨x, xs, rfl, same_rel u v x hs.1 h1, sameL_rel us vs xs hs.2 h2⟩
end

/-! ### heaps that hold the same, or less -/
theorem HRel.congr (r : HRel W om ρ h w) (hg : ∀ i, h'.get i = h.get i) (hn : h'.nx = h.nx) : HRel W om ρ h' w :=
  ⟨fun i o hi => r.objs i o (by rw [← hg]; exact hi), fun i j o o' L L' hi hj => r.inj i j o o' L L' (by rw [← hg]; exact hi) (by rw [← hg]; exact hj), fun i hi => r.fresh i (by rw [← hn]; exact hi), r.old, r.size, r.os, r.output, r.tape, r.om⟩

theorem HRel.sub (r : HRel W om ρ h w) (hs : ∀ i o, h'.get i = some o → h.get i = some o) (hn : h'.nx = h.nx) : HRel W om ρ h' w := (Goes.sub r hs hn).rel

/-- What a smaller heap has gone to, with what it did not hold. -/
theorem Goes.frame {X Y X' Y' : Hp} (rX : HRel W om ρ X w) (hs : ∀ i o, Y.get i = some o → X.get i = some o) (hn : Y.nx = X.nx) (g : Goes W om ρ Y w ρ' Y' w') (hn' : X'.nx = Y'.nx)
    (hX : ∀ i o, X'.get i = some o → Y'.get i = some o ∨ (X.get i = some o ∧ Y.get i = none ∧ i < X.nx)) : Goes W om ρ X w ρ' X' w' := by
  have lft : ∀ i o L, X.get i = some o → Y.get i = none → ρ i = some L → ∀ j o' L', Y'.get j = some o' → ρ' j = some L' → L'.blk ≠ L.blk := fun i o L hi hy hL j o' L' hj hL' e => by
    rcases g.own j o' L' hj hL' with c | ⟨k, o2, L2, hk, hL2, e2⟩
    · have := rX.lt hi hL; omega
    · have := rX.inj k i o2 o L2 L (hs k o2 hk) hi hL2 hL (by rw [e2, e])
      subst this
      rw [hk] at hy; cases hy
  have keeps : ∀ i o, X.get i = some o → Y.get i = none → ∃ L obj, ρ i = some L ∧ w'.heap[L.blk]? = some obj ∧ ORel ρ o L obj ∧ (o.isRo = false → W.heap.size ≤ L.blk) := fun i o hi hy => by
    obtain ⟨L, obj, h1, h2, h3, h4⟩ := rX.objs i o hi
    refine ⟨L, obj, h1, ?_, h3, h4⟩
    rw [g.frm L.blk (rX.lt hi h1) (fun j o' L' hj hL' e => ?_)]
    · exact h2
    · have := rX.inj j i o' o L' L (hs j o' hj) hi hL' h1 e
      subst this
      rw [hj] at hy; cases hy
  exact {
    ext := g.ext
    rel := by
      refine ⟨fun i o hi => ?_, fun i j o o' L L' hi hj hL hL' e => ?_, fun i hi => g.rel.fresh i (by rw [← hn']; exact hi), g.rel.old, g.rel.size, g.rel.os, g.rel.output, g.rel.tape, g.rel.om⟩
      · rcases hX i o hi with c | ⟨c1, c2, _⟩
        · exact g.rel.objs i o c
        · obtain ⟨L, obj, h1, h2, h3, h4⟩ := keeps i o c1 c2
          exact ⟨L, obj, g.ext _ _ h1, h2, h3.mono g.ext, h4⟩
      · rcases hX i o hi with c | ⟨c1, c2, _⟩ <;> rcases hX j o' hj with d | ⟨d1, d2, _⟩
        · exact g.rel.inj i j o o' L L' c d hL hL' e
        · obtain ⟨M, _, h1, _⟩ := rX.objs j o' d1
          have := g.ext _ _ h1
          rw [hL'] at this; injection this with this; subst this
          exact absurd e (lft j o' L' d1 d2 h1 i o L c hL)
        · obtain ⟨M, _, h1, _⟩ := rX.objs i o c1
          have := g.ext _ _ h1
          rw [hL] at this; injection this with this; subst this
          exact absurd e.symm (lft i o L c1 c2 h1 j o' L' d hL')
        · obtain ⟨M, _, h1, _⟩ := rX.objs i o c1
          obtain ⟨N, _, h2, _⟩ := rX.objs j o' d1
          have e1 := g.ext _ _ h1
          have e2 := g.ext _ _ h2
          rw [hL] at e1; injection e1 with e1; subst e1
          rw [hL'] at e2; injection e2 with e2; subst e2
          exact rX.inj i j o o' L L' c1 d1 h1 h2 e
    frm := fun B hB hn2 => g.frm B hB fun i o L hi hL => hn2 i o L (hs i o hi) hL
    size := g.size
    own := fun i o L hi hL => by
      rcases hX i o hi with c | ⟨c1, c2, _⟩
      · rcases g.own i o L c hL with d | ⟨k, o2, L2, hk, hL2, e2⟩
        · exact .inl d
        · exact .inr ⟨k, o2, L2, hs k o2 hk, hL2, e2⟩
      · obtain ⟨M, _, h1, _⟩ := rX.objs i o c1
        have e1 := g.ext _ _ h1
        rw [hL] at e1; injection e1 with e1; subst e1
        exact .inr ⟨i, o, L, c1, h1, rfl⟩
    nx := by rw [← hn, hn']; exact g.nx
    keep := fun i hi => g.keep i (by rw [hn]; exact hi) }
end
end Go.Ev
