/-
  What is proved: a call without arguments whose abstract run, from no memory at all, comes to true: it comes to true in whatever world, and all memory stays (ctr1_ok). The condition: the program's mixed orders are followed; none of its functions is runtime.NumGoroutine.
-/
import Derived.Test.YtpdmljkmfdkfgaaGreatEvV
import Derived.Below
namespace Go.Ev

section
variable {P : Program}

noncomputable def noMem : OM := fun _ _ => .no
noncomputable def noCtr : Ctr := fun _ => none
noncomputable def isTrue : OVH → Bool
  | .yes (.bool b) _ => b
  | _ => false

theorem isTrue_yes {r : OVH} (h : isTrue r = true) : ∃ h', r = .yes (.bool true) h' := by
  unfold isTrue at h
  split at h
  · subst h; exact ⟨_, rfl⟩
  · cases h

noncomputable def ctr1 (f : Nat) : Ctr := fun g => bif Nat.beq g f then some (fun args h => match args with
  | [] => .yes (.bool true) h
  | _ => .no) else none

theorem noCtr_ok {W : World} {om : OM} : CtrOk W om P noCtr := fun _ _ hk => by cases hk

theorem HRel.start (w : World) : HRel w noMem (fun _ => none) ⟨.e, 0⟩ w :=
  ⟨fun i o h => (by cases h), fun i j o o' L L' h => (by cases h), fun _ _ => rfl, fun _ _ => rfl, Nat.le_refl _, rfl, rfl, rfl, fun _ _ _ h => (by cases h)⟩

/-- What left all memory as it was. -/
theorem Goes.lift {W w w' : World} {om : OM} {ρ ρ' : Rho} {h h' : Hp} (g : Goes w noMem (fun _ => none) ⟨.e, 0⟩ w ρ' h' w') (r : HRel W om ρ h w) : Goes W om ρ h w ρ h w' where
  ext := Rho.le_refl _
  rel := by
    refine ⟨fun i o hi => ?_, r.inj, r.fresh, fun i hi => ?_, Nat.le_trans r.size g.size, g.rel.os.trans r.os, g.rel.output.trans r.output, g.rel.tape.trans r.tape, r.om⟩
    · obtain ⟨L, obj, h1, h2, h3, h4⟩ := r.objs i o hi
      exact ⟨L, obj, h1, by rw [g.rel.old _ (r.lt hi h1)]; exact h2, h3, h4⟩
    · rw [g.rel.old i (Nat.lt_of_lt_of_le hi r.size)]; exact r.old i hi
  frm := fun B hB _ => g.rel.old B hB
  size := g.size
  own := fun i o L hi hL => .inr ⟨i, o, L, hi, hL, rfl⟩
  nx := Nat.le_refl _
  keep := fun _ _ => rfl

theorem ctr1_ok (hN : NameOk P) (hmix : P.follows .mixedOrders = true) {fuel d f : Nat} (hrun : isTrue (callV P noMem noCtr fuel d (.fn (.func f) [] []) [] ⟨.e, 0⟩) = true) (W : World) (om : OM) : CtrOk W om P (ctr1 f) := by
  intro g k hk ρ h w args A v h' ra rh he
  obtain ⟨h2, hrun⟩ := isTrue_yes hrun
  unfold ctr1 at hk
  cases hb : Nat.beq g f with
  | false => rw [hb] at hk; cases hk
  | true =>
    rw [hb] at hk
    have := beq_iff.1 hb
    subst this
    simp only [cond_true] at hk
    injection hk with hk
    subst hk
    cases args with
    | cons x xs => cases he
    | nil =>
      simp only [] at he
      injection he with e1 e2; subst e1 e2
      have ra : A = [] := ra
      subst ra
      have hr := callV_ok (W := w) (om := noMem) hN (drawOk hmix) noCtr_ok fuel d (fun _ => none) ⟨.e, 0⟩ w (.fn (.func g) [] []) (.func (.func g) #[] #[]) [] [] (.bool true) h2 ⟨[], [], rfl, rfl, rfl⟩ rfl (HRel.start w) hrun
      have hc : (do let d ← Deferred.ofValue (Value.func (.func g) #[] #[]) ([] : List Value).toArray; invoke d.target d.args : Sem Next).run P w = (callFunc g ([] : List Value).toArray).run P w := by
        simp [Deferred.ofValue, invoke]
      rw [hc] at hr
      generalize (callFunc g ([] : List Value).toArray).run P w = res at hr
      cases res with
      | halt x w' => exact hr.elim
      | ok nx w₁ =>
        cases nx <;> first | exact hr.elim | skip
        case value y =>
          obtain ⟨ρ', h1, h2⟩ := hr
          exact ⟨ρ, h1, h2.lift rh⟩
        case enter f' args' =>
          refine CallsIn.mono hr fun e w' he => ?_
          cases e with
          | returned y => obtain ⟨ρ', h1, h2⟩ := he; exact ⟨ρ, h1, h2.lift rh⟩
          | panicked ch => exact he.elim
          | outgrown => exact he.elim
        case round l f' tmps assign body =>
          refine RoundIn.mono hr fun e w' he => ?_
          cases e with
          | returned y => obtain ⟨ρ', h1, h2⟩ := he; exact ⟨ρ, h1, h2.lift rh⟩
          | panicked ch => exact he.elim
          | outgrown => exact he.elim

/-- Memory as it was, so far as it was there. -/
theorem HRel.below {W w : World} {om : OM} {ρ : Rho} {h : Hp} (r : HRel W om ρ h w) : Go.RowKit.Below W.heap.size W w := ⟨r.os, r.tape, r.output, r.size, r.old⟩
end
end Go.Ev
