/-
  What is proved: a region of operations whose order is fixed does what its abstract run says, given that calls do. No condition of a program's.
-/
import Derived.Test.YtpdmljkmfdkfgaaGreatEvM
import Derived.CallsIn
namespace Go.Ev

section
variable {W : World} {om : OM} {P : Program} {ρ ρ' : Rho} {h h' : Hp} {w w' : World} {t t' : TT} {a : Act}

/-- The fence of a walk: none; within a round of a loop over a function, that round's. -/
def Fd (r : Option Nat) : Fence := { Fence.wide with round := r }

/-- How what a call asks for goes on. -/
def CallRes (W : World) (om : OM) (P : Program) (ρ : Rho) (h : Hp) (w : World) (v : AV) (h' : Hp) : Result Next → Prop
  | .ok (.value x) w' => ∃ ρ', VRel ρ' v x ∧ Goes W om ρ h w ρ' h' w'
  | .ok (.enter f args) w₁ => CallsIn Fence.wide 0 P f args w₁ fun
      | .returned x, w' => ∃ ρ', VRel ρ' v x ∧ Goes W om ρ h w ρ' h' w'
      | _, _ => False
  | .ok (.round l f tmps assign body) w₁ => RoundIn Fence.wide 0 P l f tmps assign body w₁ fun
      | .returned x, w' => ∃ ρ', VRel ρ' v x ∧ Goes W om ρ h w ρ' h' w'
      | _, _ => False
  | _ => False

def CallOk (W : World) (om : OM) (P : Program) (call : CallF) : Prop :=
  ∀ (ρ : Rho) (h : Hp) (w : World) (fv : AV) (F : Value) (args : List AV) (A : List Value) (v : AV) (h' : Hp), VRel ρ fv F → VRelL ρ args A → HRel W om ρ h w → call fv args h = .yes v h' →
    CallRes W om P ρ h w v h' ((do let d ← Deferred.ofValue F A.toArray; invoke d.target d.args : Sem Next).run P w)

/-- A frame's state. -/
structure StRel (ρ : Rho) (nt : Nat) (t : TT) (a : Act) : Prop where
  tr : TRel ρ t a.tmps
  sz : nt ≤ a.tmps.size

theorem StRel.mono {nt : Nat} (h : ρ.le ρ') (s : StRel ρ nt t a) : StRel ρ' nt t a := ⟨s.tr.mono h, s.sz⟩

theorem StRel.put {nt : Nat} {d : Option Nat} {v : AV} {x : Value} (s : StRel ρ nt t a) (hd : dstOk nt d = true) (hv : VRel ρ v x) : StRel ρ nt (putT d v t) (a.put d x) := by
  cases d with
  | none => exact s
  | some d =>
    simp only [dstOk, Bool.and_eq_true] at hd
    have h1 := blt_iff.1 hd.1
    have h2 := okT_lt hd.2
    refine ⟨fun i hi => ?_, by simpa [Act.put] using s.sz⟩
    have hs := s.sz
    simp only [putT, Act.put]
    rw [TT.get_set]
    by_cases e : pth i = pth d
    · rw [if_pos e]
      have := pth_inj hi h2 e
      subst this
      rw [Array.getD_eq_getD_getElem?, Array.getElem?_setIfInBounds_self_of_lt (by omega)]
      exact hv
    · rw [if_neg e]
      have hne : d ≠ i := fun h => e (by rw [h])
      have := s.tr i hi
      rw [Array.getD_eq_getD_getElem?] at this ⊢
      rw [Array.getElem?_setIfInBounds_ne hne]
      exact this

theorem put_defers (a : Act) (d : Option Nat) (x : Value) : (a.put d x).defers = a.defers := by cases d <;> rfl

theorem undef_rel : VRel ρ .undef Go.undef := ⟨[], rfl, rfl⟩

def asB : Value → Option Bool
  | .bool y => some y
  | _ => none

/-- The truth on which an operation hangs. -/
theorem wantB_rel {w : Bool} {v : AV} {x : Value} {b : Bool} (h : wantB w v = .yes b) (r : VRel ρ v x) : asB x = some w ↔ b = true := by
  cases v with
  | int k n => cases r; cases h; simp [asB]
  | bool y => cases r; cases w <;> cases y <;> cases h <;> simp [asB]
  | «at» a => cases h
  | agg cs => obtain ⟨l, rfl, _⟩ := r; cases h; simp [asB]
  | tup cs => obtain ⟨l, rfl, _⟩ := r; cases h; simp [asB]
  | fn f a b => obtain ⟨l, m, rfl, _⟩ := r; cases h; simp [asB]
  | iface t u => obtain ⟨y, rfl, _⟩ := r; cases h; simp [asB]

theorem wanted_rel {nt : Nat} {ops : Array Oper} {o : Oper} {g : Nat} {w : Bool} {gp : Pth} {b : Bool} (s : StRel ρ nt t a) (ho : o.guard = some (g, w)) (hg : guardAt (ops.toList.map (·.dst)) g = .at gp) (hb : wantB w (TT.get gp t) = .yes b) :
    Region.wanted o (yielded ops a.tmps) = b := by
  unfold guardAt at hg
  split at hg
  · rename_i d hd
    cases hok : okT d with
    | false => rw [hok] at hg; cases hg
    | true =>
      rw [hok] at hg
      injection hg with hg; subst hg
      have hr := wantB_rel hb (s.tr d (okT_lt hok))
      have hdst : (ops[g]?).bind (·.dst) = some d := by
        simp only [List.getElem?_map, Option.map_eq_some_iff] at hd
        obtain ⟨o', ho', e⟩ := hd
        rw [Array.getElem?_toList] at ho'
        rw [ho']; exact e
      have hy : yielded ops a.tmps g = asB (a.tmps.getD d Go.undef) := by
        unfold yielded
        rw [hdst, Option.bind_some, Array.getD_eq_getD_getElem?]
        cases a.tmps[d]? with
        | none => rfl
        | some x => cases x <;> rfl
      unfold Region.wanted
      rw [ho]
      simp only [hy]
      rw [Bool.eq_iff_iff, beq_iff_eq]
      exact hr
  · cases hg

theorem skipped_rel {ops : Array Oper} {o : Oper} {g : Nat} {w : Bool} {tmps : Array Value} (ho : o.guard = some (g, w)) (hg : guardAt (ops.toList.map (·.dst)) g = .skip) : Region.wanted o (yielded ops tmps) = false := by
  have hdst : (ops[g]?).bind (·.dst) = none := by
    unfold guardAt at hg
    split at hg
    · rename_i d hd; cases hok : okT d <;> rw [hok] at hg <;> cases hg
    · rename_i hne
      cases ho' : ops[g]? with
      | none => rfl
      | some o' =>
        cases hd : o'.dst with
        | none => simp [hd]
        | some d => exact absurd (by simp [List.getElem?_map, ho', hd]) (hne d)
  unfold Region.wanted
  rw [ho]
  simp only [yielded, hdst, Option.bind_none]
  rfl

/-- One operation, wanted. -/
theorem stOf_sound {call : CallF} (hcall : CallOk W om P call) {nt : Nat} {o : Oper} {r : Option Nat} {next : Act → World → Prop} {Q : Exit → Act → World → Prop} (hd : dstOk nt o.dst = true)
    (hs : stOf (den P om o.op) (putT o.dst) call t h = .yes t' h') (s : StRel ρ nt t a) (rh : HRel W om ρ h w)
    (hn : ∀ ρ' x w', StRel ρ' nt t' (a.put o.dst x) → Goes W om ρ h w ρ' h' w' → next (a.put o.dst x) w') : o.wpIn (Fd r) 0 P a w next Q := by
  have ok := den_ok (W := W) (om := om) (P := P) o
  have hnd : ∀ c, o.op ≠ .defer c := fun c e => by
    have : den P om o.op = .bad := by rw [e]; rfl
    rw [this] at hs
    cases hs
  refine ⟨fun _ _ => trivial, ?_⟩
  rw [Oper.semAt_eq _ _ _ hnd]
  generalize den P om o.op = act at ok hs
  cases act with
  | pure f =>
    simp only [stOf, stPure] at hs
    cases hf : f t with
    | no => rw [hf] at hs; cases hs
    | yes v =>
      rw [hf] at hs
      injection hs with e1 e2; subst e1 e2
      obtain ⟨x, h1, h2⟩ := ok ρ t a w v s.tr hf
      rw [h1]
      exact hn ρ x w (s.put hd h2) (Goes.refl rh)
  | read f =>
    simp only [stOf, stRead] at hs
    cases hf : f t h with
    | no => rw [hf] at hs; cases hs
    | yes v =>
      rw [hf] at hs
      injection hs with e1 e2; subst e1 e2
      obtain ⟨x, w', h1, h2, h3⟩ := ok ρ t a h w v s.tr rh hf
      rw [h1]
      exact hn ρ x w' (s.put hd h2) h3
  | alloc f =>
    simp only [stOf, stAlloc] at hs
    cases hf : f t with
    | no => rw [hf] at hs; cases hs
    | yes ob mk =>
      rw [hf] at hs
      injection hs with e1 e2; subst e1 e2
      obtain ⟨obj, x, L, n, h1, h2, h3, h4⟩ := ok ρ t a w ob mk s.tr hf
      rw [h1]
      obtain ⟨ρ', e3, e4⟩ := Goes.new (o := ob) (obj := obj) L (rh.drew n) h2 fun ρ' hle hi => (h4 ρ' _ hle hi).1
      have e4 : Goes W om ρ h w ρ' (h.new ob) { w.alloc obj with drawn := n } := (Goes.drew rh n).trans e4
      exact hn ρ' x _ ((s.mono e4.ext).put hd (h4 ρ' _ e4.ext e3).2) e4
  | eff f =>
    simp only [stOf, stEff] at hs
    cases hf : f t h with
    | no => rw [hf] at hs; cases hs
    | yes v h2 =>
      rw [hf] at hs
      injection hs with e1 e2; subst e1 e2
      obtain ⟨r, x, w', ρ', h1, h2, h3, h4⟩ := ok ρ t a h w v _ s.tr rh hf
      rw [h1]
      cases r <;> first
        | (injection h2 with h2; subst h2; exact hn ρ' _ w' ((s.mono h4.ext).put hd h3) h4)
        | cases h2
  | call x args =>
    simp only [stOf, stCall] at hs
    cases hf : call (x t) (gets t args) h with
    | no => rw [hf] at hs; cases hs
    | yes v h2 =>
      rw [hf] at hs
      injection hs with e1 e2; subst e1 e2
      obtain ⟨c, fo, hop, hc, hfo, has⟩ := ok
      have rx := opd_rel hfo s.tr
      have ra := opds_rel has s.tr
      have hr := hcall ρ h w _ _ _ _ v _ rx ra rh hf
      have hargs : c.args.map a.eval = (c.args.toList.map a.eval).toArray := Array.ext' (by simp)
      have he : (execOp a.eval o).run P w = (do let d ← Deferred.ofValue (a.eval fo) (c.args.toList.map a.eval).toArray; invoke d.target d.args : Sem Next).run P w := by
        simp only [execOp, hop, resolve, hc, hargs]
      rw [he]
      generalize (do let d ← Deferred.ofValue (a.eval fo) (c.args.toList.map a.eval).toArray; invoke d.target d.args : Sem Next).run P w = res at hr
      cases res with
      | halt x w' => exact hr.elim
      | ok nx w₁ =>
        cases nx <;> first | exact hr.elim | skip
        case value y =>
          obtain ⟨ρ', h1, h2⟩ := hr
          exact hn ρ' y w₁ ((s.mono h2.ext).put hd h1) h2
        case enter f args' =>
          refine ⟨fun hd => (by cases hd), CallsIn.mono (F := Fence.wide) hr fun e w' he => ?_⟩
          cases e with
          | returned y =>
            obtain ⟨ρ', h1, h2⟩ := he
            exact hn ρ' y w' ((s.mono h2.ext).put hd h1) h2
          | panicked ch => exact he.elim
          | outgrown => exact he.elim
        case round l f tmps assign body =>
          refine ⟨fun hd => (by cases hd), RoundIn.mono (F := Fence.wide) hr fun e w' he => ?_⟩
          cases e with
          | returned y =>
            obtain ⟨ρ', h1, h2⟩ := he
            exact hn ρ' y w' ((s.mono h2.ext).put hd h1) h2
          | panicked ch => exact he.elim
          | outgrown => exact he.elim
  | bad => cases hs

theorem regC_sound {call : CallF} (hcall : CallOk W om P call) {nt : Nat} {ops : Array Oper} {r : Option Nat} {Q : Exit → Act → World → Prop} : ∀ (os : List Oper) (i : Nat) (ρ : Rho) (t : TT) (h : Hp) (w : World) (a : Act), ops.toList.drop i = os →
    regC P om nt (ops.toList.map (·.dst)) os call t h = .yes t' h' → StRel ρ nt t a → HRel W om ρ h w →
    (∀ ρ' a' w', StRel ρ' nt t' a' → a'.defers = a.defers → Goes W om ρ h w ρ' h' w' → Q .normal a' w') → wpOpsIn (Fd r) 0 P ops Q (List.range' i os.length) a w
  | [], i, ρ, t, h, w, a, _, hs, s, rh, hQ => by
    simp only [regC] at hs
    injection hs with e1 e2; subst e1 e2
    exact hQ ρ a w s rfl (Goes.refl rh)
  | o :: os, i, ρ, t, h, w, a, hi, hs, s, rh, hQ => by
    simp only [regC, thenR] at hs
    cases h1 : opC P om nt (ops.toList.map (·.dst)) o call t h with
    | no => rw [h1] at hs; cases hs
    | yes t₁ h₁ =>
      rw [h1] at hs
      simp only [] at hs
      have hio : ops[i]? = some o := by
        have : (ops.toList.drop i)[0]? = some o := by rw [hi]; rfl
        rw [List.getElem?_drop, Array.getElem?_toList] at this
        exact this
      have hi' : ops.toList.drop (i + 1) = os := by rw [← List.drop_drop, hi]; rfl
      have hgo : ∀ ρ' x w', StRel ρ' nt t₁ (a.put o.dst x) → Goes W om ρ h w ρ' h₁ w' → wpOpsIn (Fd r) 0 P ops Q (List.range' (i + 1) os.length) (a.put o.dst x) w' := fun ρ' x w' s' g' =>
        regC_sound hcall os (i + 1) ρ' t₁ h₁ w' _ hi' hs s' g'.rel fun ρ2 a2 w2 s2 d2 g2 => hQ ρ2 a2 w2 s2 (by rw [d2, put_defers]) (g'.trans g2)
      rw [List.length_cons, List.range'_succ]
      simp only [wpOpsIn, hio]
      unfold opC at h1
      cases hd : dstOk nt o.dst with
      | false => rw [hd] at h1; cases h1
      | true =>
        rw [hd] at h1
        simp only [Bool.not_true, cond_false] at h1
        have skip : t₁ = putT o.dst .undef t → h₁ = h → Region.wanted o (yielded ops a.tmps) = false →
            (if Region.wanted o (yielded ops a.tmps) then o.wpIn (Fd r) 0 P a w (wpOpsIn (Fd r) 0 P ops Q (List.range' (i + 1) os.length)) Q else (∀ f, o.about P w a.eval = some f → (Fd r).fn f) ∧ wpOpsIn (Fd r) 0 P ops Q (List.range' (i + 1) os.length) (a.put o.dst undef) w) := by
          intro e1 e2 e3
          subst e1 e2
          rw [if_neg (by rw [e3]; simp)]
          exact ⟨fun _ _ => trivial, hgo ρ Go.undef w (s.put hd undef_rel) (Goes.refl rh)⟩
        have take : stOf (den P om o.op) (putT o.dst) call t h = .yes t₁ h₁ → Region.wanted o (yielded ops a.tmps) = true →
            (if Region.wanted o (yielded ops a.tmps) then o.wpIn (Fd r) 0 P a w (wpOpsIn (Fd r) 0 P ops Q (List.range' (i + 1) os.length)) Q else (∀ f, o.about P w a.eval = some f → (Fd r).fn f) ∧ wpOpsIn (Fd r) 0 P ops Q (List.range' (i + 1) os.length) (a.put o.dst undef) w) := by
          intro e1 e3
          rw [if_pos e3]
          exact stOf_sound hcall hd e1 s rh hgo
        cases hg : o.guard with
        | none =>
          rw [hg] at h1
          exact take h1 (by unfold Region.wanted; rw [hg])
        | some gw =>
          obtain ⟨g, wn⟩ := gw
          rw [hg] at h1
          simp only [] at h1
          cases hgp : guardAt (ops.toList.map (·.dst)) g with
          | no => rw [hgp] at h1; cases h1
          | skip =>
            rw [hgp] at h1
            injection h1 with e1 e2
            exact skip e1.symm e2.symm (skipped_rel hg hgp)
          | «at» gp =>
            rw [hgp] at h1
            simp only [guarded] at h1
            cases hb : wantB wn (TT.get gp t) with
            | no => rw [hb] at h1; cases h1
            | yes b =>
              rw [hb] at h1
              have hw := wanted_rel s hg hgp hb
              cases b with
              | false => injection h1 with e1 e2; exact skip e1.symm e2.symm hw
              | true => exact take h1 hw
end
end Go.Ev
