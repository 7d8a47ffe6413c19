/-
  Proved here: the law StoreNil answers true at every area and every bytes (the walk of the law's own code, and the closed run of its call of 'live'), on no condition.
-/
import Derived.Test.YtpdmljkmfdkfgaaGreatEvW
import Derived.Test.YtpdmljkmfdkfgaaGreatEvY
import Derived.Test.YtpdmljkmfdkfgaaGreatRows
import Derived.ProofKit
import Derived.OpenShut
namespace Go.Proofs.YtpdmljkmfdkfgaaGreat
open Go.Ev

noncomputable def sL : Code → Code | .seq a _ => a | c => c
noncomputable def sR : Code → Code | .seq _ b => b | c => c
noncomputable def c4 : Code := Tryz.f4.body.getD .skip
noncomputable def r0 : Code := sL c4
noncomputable def r1 : Code := sL (sL (sR c4))
noncomputable def cnd : Code := sR (sL (sR c4))
noncomputable def rest : Code := sR (sR c4)
theorem body4 : Tryz.f4.body = some (.seq r0 (.seq (.seq r1 cnd) rest)) := by kernel_rfl
noncomputable def callN : CallF := callV Tryz.prog noMem (ctr1 6) 1000 100
noncomputable def tB (area n : Int) (p : Value) (b : Bool) : TT :=
  putT (some 15) (.bool b) (putT (some 14) (.int .i64 n) (putT (some 13) (.at (.old p)) (putT (some 4) (.bool false) (TT.ofL 0 [.int .i64 area, .at (.old p)] .e))))
noncomputable def tail (area n : Int) (p : Value) (b : Bool) : RC := cSeq (cc Tryz.prog noMem 91 cnd) (cc Tryz.prog noMem 91 rest) 1000 callN none (tB area n p b) [] ⟨.e, 0⟩
noncomputable def okTail (area n : Int) (p : Value) (b : Bool) : Bool := match tail area n p b with
  | .nrm t m h => isTrue (leave Tryz.prog noMem Tryz.f4.results.toList t m h)
  | .ret t m h => isTrue (leave Tryz.prog noMem Tryz.f4.results.toList t m h)
  | _ => false
set_option maxRecDepth 1000000
theorem ok_true : (fun area n p => okTail area n p true) = fun _ _ _ => true := by kernel_rfl
theorem ok_false : (fun area n p => okTail area n p false) = fun _ _ _ => true := by kernel_rfl
theorem names : (Tryz.prog.funcs.toList.all fun f => f.name != "runtime.NumGoroutine") = true := by kernel_rfl
theorem mixed : Tryz.prog.follows .mixedOrders = true := by kernel_rfl
theorem reg1 : ∃ id o1 o2 o3, r1 = .region id #[o1, o2, o3] false ∧ o1.op = .move (.tmp 1) ∧ o1.dst = some 13 ∧ o1.guard = none ∧ (∃ c, o2.op = .call c ∧ c.callee = .builtin .len ∧ c.args = #[.tmp 13] ∧ c.argTypes = #[42]) ∧ o2.dst = some 14 ∧ o2.guard = none ∧
    (∃ ty, o3.op = .binOp .gtr 3 (.tmp 14) (.const (.int .i64 8000)) ty) ∧ o3.dst = some 15 ∧ o3.guard = none := ⟨_, _, _, _, rfl, rfl, rfl, rfl, ⟨_, rfl, rfl, rfl, rfl⟩, rfl, rfl, ⟨_, rfl⟩, rfl, rfl⟩
theorem reg0 : ∃ id o1, r0 = .region id #[o1] false ∧ o1.op = .assign (.const (.bool false)) ∧ o1.dst = some 4 ∧ o1.guard = none := ⟨_, _, rfl, rfl, rfl, rfl⟩

theorem enter_st {ρ : Rho} {args : List AV} {A : List Value} (ra : VRelL ρ args A) (hlen : args.length ≤ 200) (n : Nat) : StRel ρ n (TT.ofL 0 args .e) { tmps := A.toArray ++ Array.replicate (n - A.toArray.size) Go.undef, defers := [] } := by
  have hal := ra.length
  refine ⟨fun i hi => ?_, by simp; omega⟩
  rw [TT.ofL_get _ _ _ i hi (by omega), TT.get_e, Array.getD_eq_getD_getElem?]
  by_cases hin : i < args.length
  · rw [if_pos (by omega), Array.getElem?_append_left (by simp; omega)]
    have hx : args[i]? = some args[i] := List.getElem?_eq_getElem hin
    obtain ⟨x, h1, h2⟩ := ra.get hx
    simp only [Nat.sub_zero, hx, Option.getD_some, List.getElem?_toArray, h1]
    exact h2
  · rw [if_neg (by omega), Array.getElem?_append_right (by simp; omega)]
    have : ((Array.replicate (n - A.toArray.size) Go.undef)[i - A.toArray.size]?).getD Go.undef = Go.undef := by
      rw [Array.getElem?_replicate]; split <;> rfl
    rw [this]
    exact undef_rel

theorem leavesM_mono {P : Program} {fn : Func} {tmps : Array Value} {R R' : Ending → World → Prop} (hR : ∀ e w, R e w → R' e w) : ∀ {ds : List Deferred} {w : World},
    LeavesInM Fence.wide 0 P fn tmps R ds .returning w → (∀ d ∈ ds, ∃ r, d.target = .collected r) → LeavesInM Fence.wide 0 P fn tmps R' ds .returning w
  | [], w, h, _ => by obtain ⟨v, h1, h2⟩ := h; exact ⟨v, h1, hR _ _ h2⟩
  | d :: ds, w, ⟨hu, h⟩, hd => by
    refine ⟨hu, ?_⟩
    rcases h with ⟨r, w', h1, h2, h3⟩ | ⟨_, fv, cap, f, args, h1, _⟩
    · exact .inl ⟨r, w', h1, h2, leavesM_mono hR h3 fun d hd2 => hd d (by simp [hd2])⟩
    · obtain ⟨r, hr⟩ := hd d (by simp)
      rw [hr] at h1; cases h1

theorem MRel.coll {ρ : Rho} : ∀ {m : List Nat} {ds : List Deferred}, MRel ρ m ds → ∀ d ∈ ds, ∃ r, d.target = .collected r
  | [], ds, h, d, hd => by have h : ds = [] := h; subst h; cases hd
  | i :: m, ds, h, d, hd => by
    obtain ⟨L, rest, _, rfl, h3⟩ := h
    rcases List.mem_cons.1 hd with rfl | c
    · exact ⟨_, rfl⟩
    · exact MRel.coll h3 d c

theorem nameOk : NameOk Tryz.prog := fun f fn hf => by
  have := List.all_eq_true.1 names fn (by have := Array.mem_of_getElem? hf; simpa using this)
  simpa using this

theorem walk (live : isTrue (callV Tryz.prog noMem noCtr 1000000 1000 (.fn (.func 6) [] []) [] ⟨.e, 0⟩) = true) (area : Int) (a0 : Option Addr) (len0 cap0 : Nat) (w : World) :
    CallsIn Fence.wide 0 Tryz.prog 4 #[.int .i64 area, .slice a0 len0 cap0] w fun e w' => e = .returned (.bool true) ∧ Go.RowKit.Below w.heap.size w w' := by
  have hcall := callV_ok (W := w) (om := noMem) nameOk (drawOk mixed) (ctr1_ok nameOk mixed live w noMem) 1000 100
  refine callsIn_of_wp_marks (F := Fence.wide) Tryz.func4 body4 trivial ?_ rfl
  have s0 := enter_st (ρ := fun _ => none) (args := [.int .i64 area, .at (.old (.slice a0 len0 cap0))]) (A := [.int .i64 area, .slice a0 len0 cap0]) ⟨_, _, rfl, rfl, _, _, rfl, ⟨rfl, rfl⟩, rfl⟩ (by simp) 91
  have he : ({ tmps := #[Value.int .i64 area, .slice a0 len0 cap0] ++ Array.replicate (Tryz.f4.ntmps - (#[Value.int .i64 area, .slice a0 len0 cap0] : Array Value).size) undef, defers := [] } : Act) =
      { tmps := [Value.int .i64 area, .slice a0 len0 cap0].toArray ++ Array.replicate (91 - [Value.int .i64 area, .slice a0 len0 cap0].toArray.size) Go.undef, defers := [] } := by rw [Tryz.ntmps4]
  rw [he]
  generalize ({ tmps := [Value.int .i64 area, .slice a0 len0 cap0].toArray ++ Array.replicate (91 - [Value.int .i64 area, .slice a0 len0 cap0].toArray.size) Go.undef, defers := [] } : Act) = a at s0 he
  have hdf : a.defers = [] := by rw [← he]
  clear he
  obtain ⟨id0, o0, e0, hop0, hd0, hg0⟩ := reg0
  obtain ⟨id1, o1, o2, o3, e1, hop1, hd1, hg1, ⟨c2, hop2, hc2, ha2, ht2⟩, hd2, hg2, ⟨ty3, hop3⟩, hd3, hg3⟩ := reg1
  rw [e0]
  refine wpIn_seq (wpIn_region ?_)
  show wpOpsIn (Go.Ev.Fd none) 0 Tryz.prog #[o0] _ [0] a w
  have g1 := s0.put (d := some 4) (v := .bool false) (x := .bool false) rfl rfl
  simp only [wpOpsIn, List.getElem?_toArray, List.getElem?_cons_zero]
  rw [if_pos (by unfold Region.wanted; rw [hg0])]
  refine wpIn_next (r := .value (.bool false)) (x := .bool false) (w' := w) (fun c e => by rw [hop0] at e; cases e) (by simp [execOp, hop0, Act.eval]) rfl ?_
  rw [hd0]
  show Code.wpIn (Go.Ev.Fd none) 0 Tryz.prog _ _ _ w
  refine wpIn_seq (wpIn_seq ?_)
  rw [e1]
  refine wpIn_region ?_
  show wpOpsIn (Go.Ev.Fd none) 0 Tryz.prog #[o1, o2, o3] _ [0, 1, 2] _ w
  have p1 : (a.put (some 4) (.bool false)).eval (.tmp 1) = .slice a0 len0 cap0 := by
    have := g1.tr 1 (by omega)
    exact this.1
  simp only [wpOpsIn, List.getElem?_toArray, List.getElem?_cons_zero, List.getElem?_cons_succ]
  rw [if_pos (by unfold Region.wanted; rw [hg1])]
  refine wpIn_next (r := .value (.slice a0 len0 cap0)) (x := .slice a0 len0 cap0) (w' := w) (fun c e => by rw [hop1] at e; cases e) (by simp only [execOp, hop1, p1, Sem.run_pure]) rfl ?_
  rw [hd1]
  have g2 := g1.put (d := some 13) (v := .at (.old (.slice a0 len0 cap0))) (x := .slice a0 len0 cap0) rfl ⟨rfl, rfl⟩
  have p2 : ((a.put (some 4) (.bool false)).put (some 13) (.slice a0 len0 cap0)).eval (.tmp 13) = .slice a0 len0 cap0 := (g2.tr 13 (by omega)).1
  rw [if_pos (by unfold Region.wanted; rw [hg2])]
  refine wpIn_next (r := .value (.int .i64 len0)) (x := .int .i64 len0) (w' := w) (fun c e => by rw [hop2] at e; cases e) ?_ rfl ?_
  · obtain ⟨cs, hex⟩ := exec_builtin hop2 hc2 (((a.put (some 4) (.bool false)).put (some 13) (.slice a0 len0 cap0)).eval)
    rw [hex, ha2, ht2]
    simp [builtin, Builtin.len_, p2, run_under Tryz.underlying42, goInt]
  rw [hd2]
  have g3 := g2.put (d := some 14) (v := .int .i64 len0) (x := .int .i64 len0) rfl rfl
  have p3 : (((a.put (some 4) (.bool false)).put (some 13) (.slice a0 len0 cap0)).put (some 14) (.int .i64 len0)).eval (.tmp 14) = .int .i64 len0 := g3.tr 14 (by omega)
  rw [if_pos (by unfold Region.wanted; rw [hg3])]
  refine wpIn_next (r := .value (.bool (decide ((8000 : Int) < (len0 : Int))))) (x := .bool (decide ((8000 : Int) < (len0 : Int)))) (w' := w) (fun c e => by rw [hop3] at e; cases e) ?_ rfl ?_
  · simp only [execOp, hop3, p3]
    simp [Act.eval, eqGuard, binOp, Op.intCmp]
  rw [hd3]
  have g4 := g3.put (d := some 15) (v := .bool (decide ((8000 : Int) < (len0 : Int)))) (x := .bool (decide ((8000 : Int) < (len0 : Int)))) rfl rfl
  generalize decide ((8000 : Int) < (len0 : Int)) = b at g4
  generalize hb : (((a.put (some 4) (.bool false)).put (some 13) (.slice a0 len0 cap0)).put (some 14) (.int .i64 len0)).put (some 15) (.bool b) = a4 at g4
  have hdf4 : a4.defers = [] := by rw [← hb]; simp only [put_defers]; exact hdf
  clear g1 g2 g3 p1 p2 p3 hb s0 hdf
  have hok : okTail area len0 (.slice a0 len0 cap0) b = true := by
    cases b with
    | true => exact congrFun (congrFun (congrFun ok_true area) len0) (.slice a0 len0 cap0)
    | false => exact congrFun (congrFun (congrFun ok_false area) len0) (.slice a0 len0 cap0)
  have ht : tB area len0 (.slice a0 len0 cap0) b = putT (some 15) (.bool b) (putT (some 14) (.int .i64 len0) (putT (some 13) (.at (.old (.slice a0 len0 cap0))) (putT (some 4) (.bool false) (TT.ofL 0 [.int .i64 area, .at (.old (.slice a0 len0 cap0))] .e)))) := rfl
  rw [← ht] at g4
  have fin : ∀ {t : TT} {m : List Nat} {h : Hp} {a' : Act} {w' : World} {ρ' : Rho}, isTrue (leave Tryz.prog noMem Tryz.f4.results.toList t m h) = true → Aft w noMem (fun _ => none) ⟨.e, 0⟩ w 91 t m h a' w' ρ' →
      LeavesInM Fence.wide 0 Tryz.prog Tryz.f4 a'.tmps (fun e w' => e = .returned (.bool true) ∧ Go.RowKit.Below w.heap.size w w') a'.defers .returning w' := fun hl o => by
    obtain ⟨h2, hl⟩ := isTrue_yes hl
    refine leavesM_mono (fun e w2 hx => ?_) (leave_ok _ _ _ _ _ hl o.st o.ma o.go) (MRel.coll o.ma)
    cases e with
    | returned x => obtain ⟨ρ2, hv, hg⟩ := hx; exact ⟨by rw [show x = .bool true from hv], hg.rel.below⟩
    | panicked ch => exact hx.elim
    | outgrown => exact hx.elim
  have hcnd := cc_ok (nt := 91) hcall nameOk (drawOk mixed) cnd 1000 none (tB area len0 (.slice a0 len0 cap0) b) [] ⟨.e, 0⟩ (fun _ => none) a4 w none
  unfold okTail tail cSeq at hok
  show Code.wpIn (Go.Ev.Fd none) 0 Tryz.prog cnd _ a4 w
  cases e : cc Tryz.prog noMem 91 cnd 1000 callN none (tB area len0 (.slice a0 len0 cap0) b) [] ⟨.e, 0⟩ with
  | no => rw [e] at hok; cases hok
  | ex i t m h => rw [e] at hok; cases hok
  | ret t m h =>
    rw [e] at hok
    unfold callN at e
    rw [e] at hcnd
    refine wpIn_mono (hcnd (by simp) g4 hdf4 (HRel.start w) trivial) fun ex a' w' o => ?_
    obtain ⟨rfl, ρ', o⟩ := o
    exact fin hok o
  | nrm t m h =>
    rw [e] at hok
    unfold callN at e
    rw [e] at hcnd
    refine wpIn_mono (hcnd (by simp) g4 hdf4 (HRel.start w) trivial) fun ex a' w' o => ?_
    obtain ⟨rfl, ρ', o⟩ := o
    have hrest := cc_ok (nt := 91) hcall nameOk (drawOk mixed) rest 1000 none t m h ρ' a' w' none
    simp only [] at hok
    show Code.wpIn (Go.Ev.Fd none) 0 Tryz.prog rest _ a' w'
    cases e2 : cc Tryz.prog noMem 91 rest 1000 callN none t m h with
    | no => rw [e2] at hok; cases hok
    | ex i t m h => rw [e2] at hok; cases hok
    | ret t2 m2 h2 =>
      rw [e2] at hok
      unfold callN at e2
      rw [e2] at hrest
      refine wpIn_mono (hrest (by simp) o.st o.ma o.go.rel trivial) fun ex a2 w2 o2 => ?_
      have o2 := o2.before o.go
      obtain ⟨rfl, ρ2, o2⟩ := o2
      exact fin hok o2
    | nrm t2 m2 h2 =>
      rw [e2] at hok
      unfold callN at e2
      rw [e2] at hrest
      refine wpIn_mono (hrest (by simp) o.st o.ma o.go.rel trivial) fun ex a2 w2 o2 => ?_
      have o2 := o2.before o.go
      obtain ⟨rfl, ρ2, o2⟩ := o2
      exact fin hok o2

open Go.ChangeShapes Go.WideShapes Go.ChangeAt Go.RowKit in
theorem own4 : ownKnob Tryz.prog.godebug = none := by kernel_rfl
theorem laidOut4 : laidOutB Tryz.prog = true := by kernel_rfl

open Go.ChangeShapes Go.WideShapes Go.ChangeAt Go.RowKit in
set_option maxRecDepth 100000 in
theorem lifted (live : isTrue (callV Tryz.prog noMem noCtr 1000000 1000 (.fn (.func 6) [] []) [] ⟨.e, 0⟩) = true) (os : Os) (started : os.Started) (H : Type) (enc : TypeId × Value → H) :
    ReturnsInHanded {} Tryz.checked os 4 .any (Rows.storeNilSpec.pre6 enc Tryz.prog Tryz.f4 Rows.storeNilRow.domain false) (Rows.storeNilSpec.post enc Tryz.prog Tryz.f4 false true false false) := by
  refine returnsInHanded_of_change (C := Tryz.checked) own4 started (by kernel_rfl) Tryz.func4
    (ChangeSpec.witness6 (enc := enc) (C := Tryz.checked) false ⟨#[], #[.int .i64 0, .slice none 0 0], []⟩ 8 (by kernel_rfl) (by kernel_rfl) (by kernel_rfl) (by kernel_rfl)) ?_
  intro W base args ds gs before hval0 hW hcnd _
  have hval : ∀ (j : Nat) t v, Tryz.f4.params[j]? = some t → args[j]? = some v → Value.okWide Tryz.prog W .any base t v := hval0
  have hW' := hW
  obtain ⟨p, q, hA0, hV, rfl, hfz, hnd⟩ := hW
  have hA : DataW.TrodAll enc Tryz.prog W 0 (fun _ => true) true Tryz.f4.params.toList args.toList ds p := hA0
  rw [Tryz.params4] at hA hval
  obtain ⟨v0, vs0, d0, ds0, p0, q0, hargs, rfl, rfl, h0, r0'⟩ := trodAll_cons hA
  obtain ⟨v1, vs1, d1, ds1, p1, q1, rfl, rfl, rfl, h1, r1'⟩ := trodAll_cons r0'
  obtain ⟨rfl, rfl, rfl⟩ := trodAll_nil r1'
  obtain rfl : args = #[v0, v1] := by cases args; simp_all
  obtain ⟨rfl, rfl⟩ := trodVars_none hV
  obtain ⟨area, rfl, rfl, rfl, w0⟩ := open_int Tryz.underlying3 (hval 0 3 v0 rfl rfl) h0
  obtain ⟨a0, len0, cap0, rfl⟩ := okWide_slice Tryz.underlying42 (hval 1 42 v1 rfl rfl)
  have k1 := h1
  have lt1 : ∀ x ∈ p1, x.block < W.heap.size := by obtain ⟨m, hm⟩ := k1; exact DataW.trod_lt m _ _ _ hm
  clear hA0 hval0
  refine (callsIn_wide.1 (walk live area a0 len0 cap0 W)).mono fun e W' ⟨he, bel⟩ => ?_
  subst he
  exact ⟨_, rfl, _, _, _, [], _, [], hW', trodAll_mk1 (shut_bool Tryz.underlying4 _), (trodAll_cons_mk (shut_int Tryz.underlying3 w0) (trodAll_cons_mk (Below.trod laidOut4 (by kernel_rfl) (of_decide_eq_true (by kernel_rfl)) k1 bel lt1) trodAll_mk0)), rfl, bel.frame _, fun h => by cases h⟩

theorem over (live : isTrue (callV Tryz.prog noMem noCtr 1000000 1000 (.fn (.func 6) [] []) [] ⟨.e, 0⟩) = true) : Rows.storeNilRow.holds Tryz.pinned (OpenSpec.ofChange Rows.storeNilSpec) :=
  OpenClaim.holds_of_wide 4 Tryz.f4 rfl rfl rfl rfl rfl rfl rfl ⟨rfl, rfl, rfl, rfl, rfl⟩ rfl rfl rfl rfl rfl (by kernel_rfl) Tryz.func4 (by kernel_rfl)
    (of_decide_eq_true (by kernel_rfl)) (by unfold Func.isWrapper; first | (rw [if_pos (by decide +kernel)]; kernel_rfl) | (rw [if_neg (by decide +kernel)]; exact ⟨rfl, rfl⟩))
    (fun os started H enc _ => lifted live os started H enc)

set_option maxRecDepth 1000000 in
theorem live_x : isTrue (callX Tryz.prog noMem noCtr 1000000 1000 (.fn (.func 6) [] []) [] ⟨.e, 0⟩) = true := by kernel_rfl
theorem live : isTrue (callV Tryz.prog noMem noCtr 1000000 1000 (.fn (.func 6) [] []) [] ⟨.e, 0⟩) = true := by rw [← callX_eq]; exact live_x
theorem storeNil_holds : Rows.StoreNilSaid := over live
end Go.Proofs.YtpdmljkmfdkfgaaGreat
