/-
  Proved here: the packed run of EvX comes to the same as the run of EvA, at every program, heap, bound and depth.
-/
import Derived.Test.YtpdmljkmfdkfgaaGreatEvX
namespace Go.Ev
variable {P : Program} {om : OM}

def Is {α : Type} (b : Bx α) (q : α → Prop) : Prop := ∃ x, b = .mk x ∧ q x
theorem Is.mk {α : Type} {x : α} {q : α → Prop} (h : q x) : Is (.mk x) q := ⟨x, rfl, h⟩
theorem Is.bind {α β : Type} {b : Bx α} {q : α → Prop} {f : α → Bx β} {r : β → Prop} (h : Is b q) (hf : ∀ x, q x → Is (f x) r) : Is (Bx.rec f b) r := by
  obtain ⟨x, rfl, hx⟩ := h
  exact hf x hx

theorem loP_is (d : D) : Is (loP d) fun f => ∀ v q k, f v q k = k (Q.set d v q) := by
  cases d <;> exact ⟨_, rfl, fun _ _ _ => rfl⟩
theorem hiP_is {f : PutQ} {lo : D} (hf : ∀ v q k, f v q k = k (Q.set lo v q)) (d : D) : Is (hiP f d) fun p => ∀ v t k, p v t k = k (Q.set d (Q.set lo v (Q.get d t)) t) := by
  cases d <;> exact ⟨_, rfl, fun _ _ _ => hf _ _ _⟩
theorem putX_is (d : Option Nat) : Is (putX d) fun p => ∀ v t k, p v t k = k (putT d v t) := by
  cases d with
  | none => exact ⟨_, rfl, fun _ _ _ => rfl⟩
  | some d => exact (loP_is (pth d).lo).bind fun f hf => hiP_is hf (pth d).hi
theorem loG_is (g : TT → Q AV) (d : D) : Is (loG g d) fun f => ∀ t, f t = Q.get d (g t) := by
  cases d <;> exact ⟨_, rfl, fun _ => rfl⟩
theorem hiG_is (lo hi : D) : Is (hiG lo hi) fun f => f = TT.get ⟨hi, lo⟩ := by
  cases hi <;> (obtain ⟨f, h1, h2⟩ := loG_is _ lo; exact ⟨f, h1, funext h2⟩)
theorem opdX_is (x : Operand) : (∃ g, opdX x = some (.mk g) ∧ opd x = some g) ∨ (opdX x = none ∧ opd x = none) := by
  cases x with
  | tmp i =>
    cases h : okT i with
    | false => exact .inr ⟨by simp only [opdX, h, cond_false], by simp only [opd, h, cond_false]⟩
    | true =>
      obtain ⟨f, h1, h2⟩ := hiG_is (pth i).lo (pth i).hi
      refine .inl ⟨f, ?_, ?_⟩
      · simp only [opdX, h, cond_true, getX, h1]
      · simp only [opd, h, cond_true, h2]
  | const v =>
    cases h : opd (.const v) with
    | none => exact .inr ⟨by simp only [opdX, h], rfl⟩
    | some g => exact .inl ⟨g, by simp only [opdX, h], rfl⟩
  | global v =>
    cases h : opd (.global v) with
    | none => exact .inr ⟨by simp only [opdX, h], rfl⟩
    | some g => exact .inl ⟨g, by simp only [opdX, h], rfl⟩
  | func v =>
    cases h : opd (.func v) with
    | none => exact .inr ⟨by simp only [opdX, h], rfl⟩
    | some g => exact .inl ⟨g, by simp only [opdX, h], rfl⟩

/-- What a step is of. -/
def StepIs (s : Stp) (f : SK → SK) : Prop := ∀ b call m t h, f b call m t h = RTH.rec .no (fun t h => b call m t h) (s call t h)
def PutIs (put : AV → TT → TT) (p : PutK) : Prop := ∀ v t k, p v t k = k (put v t)

theorem ofAct_is {put : AV → TT → TT} {p : PutK} (hp : PutIs put p) (a : Act1) : Is (ofAct a p) (StepIs (stOf a put)) := by
  cases a with
  | pure f => exact ⟨_, rfl, fun b call m t h => by simp only [pureX, stOf, stPure]; cases f t <;> simp only [hp _ _ _]⟩
  | read f => exact ⟨_, rfl, fun b call m t h => by simp only [readX, stOf, stRead]; cases f t h <;> simp only [hp _ _ _]⟩
  | alloc f => exact ⟨_, rfl, fun b call m t h => by simp only [allocX, stOf, stAlloc]; cases f t <;> simp only [hp _ _ _]⟩
  | eff f => exact ⟨_, rfl, fun b call m t h => by simp only [effX, stOf, stEff]; cases f t h <;> simp only [hp _ _ _]⟩
  | call x args => exact ⟨_, rfl, fun b call m t h => by simp only [callX1, stOf, stCall]; cases call (x t) (gets t args) h <;> simp only [hp _ _ _]⟩
  | bad => exact ⟨_, rfl, fun b call m t h => rfl⟩

theorem movX_is {put : AV → TT → TT} {p : PutK} (hp : PutIs put p) (g : Get) : StepIs (stOf (.pure fun t => .yes (g t)) put) (movX g p) := fun b call m t h => by
  simp only [movX, stOf, stPure, hp _ _ _]

theorem intX_is {put : AV → TT → TT} {p : PutK} (hp : PutIs put p) (f : IntKind → Int → Int → OV) (gx gy : Get) : StepIs (stOf (.pure (int2 f gx gy)) put) (intX f gx gy p) := fun b call m t h => by
  simp only [intX, stOf, stPure, int2, asI]
  cases gx t with
  | int k x =>
    simp only []
    cases gy t with
    | int k' y =>
      simp only []
      cases eqK k k' with
      | false => rfl
      | true => simp only [cond_true]; cases f k x y <;> simp only [hp _ _ _]
    | _ => rfl
  | _ => rfl

theorem den_int {op : BinOp} {t z : TypeId} {x y : Operand} {gx gy : Get} {k : IntKind} {f : IntKind → Int → Int → OV} (hx : opd x = some gx) (hy : opd y = some gy) (ht : P.underlying t = some (.int k)) (hf : intFn op = some f) :
    den P om (.binOp op t x y z) = .pure (int2 f gx gy) := by
  cases op <;> first | (cases hf; done) | (simp only [den, hx, hy, ht]; simp only [hf])

theorem actX_is {put : AV → TT → TT} {p : PutK} (hp : PutIs put p) (o : Op) : Is (actX P om o p) (StepIs (stOf (den P om o) put)) := by
  unfold actX
  split
  · rename_i x
    rcases opdX_is x with ⟨g, h1, h2⟩ | ⟨h1, h2⟩
    · rw [h1]; refine Is.mk ?_; simp only [den, h2]; exact movX_is hp g
    · rw [h1]; refine Is.mk ?_; simp only [den, h2]; exact fun b call m t h => rfl
  · rename_i x
    rcases opdX_is x with ⟨g, h1, h2⟩ | ⟨h1, h2⟩
    · rw [h1]; refine Is.mk ?_; simp only [den, h2]; exact movX_is hp g
    · rw [h1]; refine Is.mk ?_; simp only [den, h2]; exact fun b call m t h => rfl
  · rename_i op t x y z
    split
    · rename_i gx gy k f h1 h2 h3 h4
      rcases opdX_is x with ⟨g, e1, e2⟩ | ⟨e1, e2⟩
      · rcases opdX_is y with ⟨g', e3, e4⟩ | ⟨e3, e4⟩
        · rw [e1] at h1; cases h1
          rw [e3] at h2; cases h2
          refine Is.mk ?_
          rw [den_int e2 e4 h3 h4]
          exact intX_is hp _ _ _
        · rw [e3] at h2; cases h2
      · rw [e1] at h1; cases h1
    · exact ofAct_is hp _
  · exact ofAct_is hp _

theorem opX_is (nt : Nat) (dsts : List (Option Nat)) (o : Oper) : Is (opX P om nt dsts o) (StepIs (opC P om nt dsts o)) := by
  unfold opX opC
  obtain ⟨p, hp0, hp⟩ := putX_is o.dst
  rw [hp0]
  cases hd : dstOk nt o.dst with
  | false => exact ⟨_, rfl, fun b call m t h => rfl⟩
  | true =>
    simp only [Bool.not_true, cond_false]
    cases hg : o.guard with
    | none => exact actX_is hp o.op
    | some gw =>
      obtain ⟨g, w⟩ := gw
      simp only []
      cases hga : guardAt dsts g with
      | no => exact ⟨_, rfl, fun b call m t h => rfl⟩
      | skip => exact ⟨_, rfl, fun b call m t h => hp _ _ _⟩
      | «at» gp =>
        obtain ⟨s, hs0, hs⟩ := actX_is (P := P) (om := om) hp o.op
        obtain ⟨gg, hg0, hgg⟩ := hiG_is gp.lo gp.hi
        refine ⟨guardX gg w p s, ?_, fun b call m t h => ?_⟩
        · show Bx.rec (motive := fun _ => Bx (SK → SK)) (fun s => Bx.rec (motive := fun _ => Bx (SK → SK)) (fun g => ⟨guardX g w p s⟩) (hiG gp.lo gp.hi)) (actX P om o.op p) = _
          rw [hs0, hg0]
        subst hgg
        simp only [guardX, guarded]
        cases wantB w (TT.get ⟨gp.hi, gp.lo⟩ t) with
        | no => rfl
        | yes x =>
          cases x with
          | false => exact hp _ _ _
          | true => exact hs b call m t h

theorem regX_is (nt : Nat) (dsts : List (Option Nat)) : ∀ os : List Oper, Is (regX P om nt dsts os) fun s => ∀ call m t h, s call m t h = RTH.rec .no (fun t h => .nrm t m h) (regC P om nt dsts os call t h)
  | [] => ⟨_, rfl, fun call m t h => rfl⟩
  | o :: os => by
    obtain ⟨b, hb0, hb⟩ := regX_is nt dsts os
    obtain ⟨s, hs0, hs⟩ := opX_is (P := P) (om := om) nt dsts o
    refine ⟨s b, ?_, fun call m t h => ?_⟩
    · have e : regX P om nt dsts (o :: os) = Bx.rec (motive := fun _ => Bx SK) (fun b => Bx.rec (motive := fun _ => Bx SK) (fun s => Bx.mk (s b)) (opX P om nt dsts o)) (regX P om nt dsts os) := rfl
      rw [e, hb0, hs0]
    rw [hs b call m t h]
    simp only [regC, thenR]
    cases opC P om nt dsts o call t h with
    | no => rfl
    | yes t h => exact hb call m t h

theorem cSlowX_eq (s : Stp) : cSlowX s = cReg s := by
  funext n call rd t m h
  simp only [cSlowX, cReg]

theorem regS_of {nt : Nat} {dsts : List (Option Nat)} {o : Oper} {rest : List Oper} (h : ∀ cs b, o.op ≠ .select cs b) : regS P om nt dsts (o :: rest) = regC P om nt dsts (o :: rest) := by
  unfold regS
  split
  · rename_i h0; cases h0
  · rename_i h0; cases h0
    split
    · rename_i cs b hs; exact absurd hs (h cs b)
    · rfl

theorem ccX_is (nt : Nat) : ∀ c : Code, Is (ccX P om nt c) fun x => x = cc P om nt c
  | .region id ops draw => by
    cases draw with
    | true => exact ⟨_, rfl, cSlowX_eq _⟩
    | false =>
      unfold ccX
      simp only []
      cases hl : ops.toList with
      | nil => refine ⟨_, rfl, ?_⟩; rw [cSlowX_eq]; simp only [cc, hl]
      | cons o rest =>
        simp only []
        cases ho : o.op
        case select => refine ⟨_, rfl, ?_⟩; rw [cSlowX_eq]; simp only [cc, hl]
        all_goals
          obtain ⟨s, hs0, hs⟩ := regX_is (P := P) (om := om) nt ((o :: rest).map (·.dst)) (o :: rest)
          rw [hs0]
          refine Is.mk ?_
          simp only [cc, hl]
          rw [regS_of (fun cs b => by rw [ho]; exact fun e => by cases e)]
          funext n call rd t m h
          exact hs call m t h
  | .seq a b => by
    obtain ⟨x, hx0, hx⟩ := ccX_is nt a
    obtain ⟨y, hy0, hy⟩ := ccX_is nt b
    subst hx; subst hy
    exact ⟨cSeqX _ _, by rw [ccX, hx0, hy0], rfl⟩
  | .cond c a b => by
    obtain ⟨x, hx0, hx⟩ := ccX_is nt a
    obtain ⟨y, hy0, hy⟩ := ccX_is nt b
    subst hx; subst hy
    rcases opdX_is c with ⟨g, h1, h2⟩ | ⟨h1, h2⟩
    · refine ⟨_, by rw [ccX, h1, hx0, hy0], ?_⟩
      simp only [cc, h2]
      funext n call rd t m h
      simp only [cCondX, cCond]
      cases g t <;> rfl
    · exact ⟨_, by rw [ccX, h1], by simp only [cc, h2]⟩
  | .block id c => by
    obtain ⟨x, hx0, hx⟩ := ccX_is nt c
    subst hx
    refine ⟨_, by rw [ccX, hx0], ?_⟩
    funext n call rd t m h
    simp only [cc, cBlkX, cBlk]
    cases cc P om nt c n call rd t m h with
    | ex i t m h => simp only []; cases Nat.beq i id <;> rfl
    | _ => rfl
  | .loop c => by
    obtain ⟨x, hx0, hx⟩ := ccX_is nt c
    subst hx
    exact ⟨cLoopX _, by rw [ccX, hx0], rfl⟩
  | .skip => ⟨_, rfl, rfl⟩
  | .exit _ => ⟨_, rfl, rfl⟩
  | .ret => ⟨_, rfl, rfl⟩
  | .label _ => ⟨_, rfl, rfl⟩
  | .goto _ => ⟨_, rfl, rfl⟩
  | .refuse _ => ⟨_, rfl, rfl⟩
  | .scope _ => ⟨_, rfl, rfl⟩
  | .rangeFunc _ _ _ _ => ⟨_, rfl, rfl⟩

theorem leaveX_is (rs : List ResultVar) : Is (leaveX P om rs) fun r => r = leave P om rs := by
  unfold leaveX
  split
  · rename_i i
    cases h : okT i with
    | false => exact ⟨_, rfl, rfl⟩
    | true =>
      simp only [cond_true]
      obtain ⟨g, hg0, hg⟩ : Is (getX i) fun g => g = TT.get (pth i) := hiG_is (pth i).lo (pth i).hi
      subst hg
      rw [hg0]
      refine Is.mk ?_
      funext t m h
      cases m with
      | nil => simp only [leave, shutMarks, resOf, ‹okT i = true›, cond_true, retV]
      | cons => rfl
  · exact ⟨_, rfl, rfl⟩

theorem fnX_is (fuel : Nat) (f : FuncId) : Is (fnX P om fuel f) fun r => ∀ call args h, r call args h = enter P om fuel call f args h := by
  unfold fnX enter
  split
  · rename_i fn hfn
    split
    · rename_i c hc
      refine (ccX_is fn.ntmps c).bind fun k hk => (leaveX_is fn.results.toList).bind fun r hr => Is.mk fun call args h => ?_
      subst hk; subst hr
      simp only [fnRun]
      cases Nat.ble args.length 200 with
      | false => simp only [hfn, hc]; rfl
      | true => simp only [hfn, hc, Bool.not_true, cond_false]
    · rename_i hc
      exact Is.mk fun call args h => by simp only [hfn, hc]
  · rename_i hfn
    exact Is.mk fun call args h => by simp only [hfn]

theorem callX_eq (P : Program) (om : OM) (C : Ctr) (fuel : Nat) : ∀ d, callX P om C fuel d = callV P om C fuel d
  | 0 => by funext fv args h; rfl
  | d + 1 => by
    have ih := callX_eq P om C fuel d
    funext fv args h
    have step : callX P om C fuel (d + 1) fv args h = AV.rec (motive_1 := fun _ => OVH) (motive_2 := fun _ => OVH)
      (fun f first caps _ _ => Fn.rec (fun g => Bx.rec (fun r => r (callX P om C fuel d) (first ++ args ++ caps) h) (goX P om C fuel g)) (fun _ => .no) (fun _ _ => .no) (fun _ _ _ _ => .no) (fun _ => .no) f)
      (fun _ _ _ => .no) (fun _ _ => .no) (fun _ _ => .no) (fun _ => .no) (fun _ => round1 P om fuel (callX P om C fuel d) fv args h) (fun _ _ => .no) .no (fun _ _ _ _ => .no) fv := rfl
    rw [step, ih]
    cases fv with
    | fn f first caps =>
      cases f with
      | func g =>
        simp only [goX, callV]
        cases C g with
        | some k => rfl
        | none =>
          obtain ⟨r, h1, h2⟩ := fnX_is (P := P) (om := om) fuel g
          simp only [h1, h2]
      | _ => rfl
    | «at» a => cases a <;> rfl
    | _ => rfl
end Go.Ev
