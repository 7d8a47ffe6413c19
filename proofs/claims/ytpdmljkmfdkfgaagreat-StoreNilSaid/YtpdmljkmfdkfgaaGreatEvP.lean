/-
  What is proved: functions, and rounds of loops over functions, do what their abstract runs say (callV_ok), given that regions whose order is drawn, and functions that are not entered, do. No condition of a program's.
-/
import Derived.Test.YtpdmljkmfdkfgaaGreatEvO
import Derived.RangeFuncLeaves
namespace Go.Ev

section
variable {W : World} {om : OM} {P : Program} {ρ ρ' : Rho} {h h' : Hp} {w w' : World} {t t' : TT} {a : Act} {call : CallF} {nt : Nat}

theorem TT.ofL_get : ∀ (vs : List AV) (k : Nat) (t : TT) (i : Nat), i < 256 → k + vs.length ≤ 256 → TT.get (pth i) (TT.ofL k vs t) = if k ≤ i ∧ i < k + vs.length then (vs[i - k]?).getD .undef else TT.get (pth i) t
  | [], k, t, i, _, _ => by simp only [TT.ofL, List.length_nil, Nat.add_zero]; rw [if_neg (by omega)]
  | v :: vs, k, t, i, hi, hk => by
    simp only [List.length_cons] at hk ⊢
    simp only [TT.ofL]
    rw [TT.ofL_get vs (k + 1) _ i hi (by omega), TT.get_set]
    by_cases h1 : k + 1 ≤ i ∧ i < k + 1 + vs.length
    · rw [if_pos h1, if_pos (by omega), show i - k = (i - (k + 1)) + 1 by omega, List.getElem?_cons_succ]
    · rw [if_neg h1]
      by_cases h2 : i = k
      · subst h2; rw [if_pos rfl, if_pos (by omega)]; simp
      · rw [if_neg (fun e => h2 (pth_inj hi (by omega) e)), if_neg (by omega)]

/-! ### leaving a function -/
def resRead (tmps : Array Value) (x : ResultVar) : Sem Value := match x with
  | .tmp i => pure (tmps.getD i Go.undef)
  | .cell c ty => do loadVar ty (← asAddr (tmps.getD c Go.undef))

theorem resOf_ok (rh : HRel W om ρ h w) (s : StRel ρ nt t a) : ∀ (rs : List ResultVar) (vs : List AV), resOf P om h t rs = .yes vs →
    ∃ l : List Value, VRelL ρ vs l ∧ (rs.mapM (resRead a.tmps)).run P w = .ok l w
  | [], vs, hr => by simp only [resOf] at hr; injection hr with hr; subst hr; exact ⟨[], rfl, by simp⟩
  | .tmp i :: rs, vs, hr => by
    simp only [resOf] at hr
    cases hi : okT i with
    | false => rw [hi] at hr; cases hr
    | true =>
      rw [hi] at hr
      simp only [cond_true] at hr
      cases hv : resOf P om h t rs with
      | no => rw [hv] at hr; cases hr
      | yes us =>
        rw [hv] at hr
        injection hr with hr; subst hr
        obtain ⟨l, h1, h2⟩ := resOf_ok rh s rs us hv
        exact ⟨_ :: l, ⟨_, _, rfl, s.tr i (okT_lt hi), h1⟩, by simp only [List.mapM_cons, resRead, pure_bind, Sem.run_bind, h2, Result.andThen_ok, Sem.run_pure]⟩
  | .cell i ty :: rs, vs, hr => by
    simp only [resOf] at hr
    split at hr
    · rename_i n g hn hg
      cases hi : okT i with
      | false => rw [hi] at hr; cases hr
      | true =>
        rw [hi] at hr
        simp only [Bool.not_true, cond_false] at hr
        have hti := s.tr i (okT_lt hi)
        split at hr
        · rename_i b off hb
          rw [hb] at hti
          obtain ⟨ad, ead, hp⟩ := hti
          split at hr
          · rename_i cs hcs
            obtain ⟨l1, k1, k2, k3, k4⟩ := hGetN_rel rh hcs hp
            split at hr
            · rename_i v hv
              split at hr
              · rename_i us hus
                injection hr with hr; subst hr
                obtain ⟨l, h1, h2⟩ := resOf_ok rh s rs us hus
                have hload : ∃ x, (loadVar ty ad).run P w = .ok x w ∧ VRel ρ v x := by
                  cases g with
                  | true =>
                    simp only [mkV] at hv
                    injection hv with hv; subst hv
                    exact ⟨.agg l1.toArray, by simp [loadVar, tyAgg_run hg, run_sz hn, k4], l1, rfl, k1⟩
                  | false =>
                    unfold mkV at hv
                    simp only [] at hv
                    split at hv
                    · rename_i u
                      injection hv with hv; subst hv
                      obtain ⟨x, xs, rfl, r1, r2⟩ := k1
                      have hx := k3 0 x rfl
                      have hadd : ad.add 0 = ad := by unfold Addr.add; simp
                      rw [hadd] at hx
                      exact ⟨x, by simp [loadVar, tyAgg_run hg, hx], r1⟩
                    · cases hv
                obtain ⟨x, q1, q2⟩ := hload
                exact ⟨x :: l, ⟨_, _, rfl, q2, h1⟩, by simp only [List.mapM_cons, resRead, ead, asAddr, pure_bind, Sem.run_bind, q1, h2, Result.andThen_ok, Sem.run_pure]⟩
              · cases hr
            · cases hr
          · cases hr
        · cases hr
    · cases hr

theorem results_ok {fn : Func} {vs : List AV} {l : List Value} {v : AV} {h₁ : Hp} (hr : retV vs h = .yes v h₁) (r : VRelL ρ vs l)
    (hm : (fn.results.toList.mapM (resRead a.tmps)).run P w = .ok l w) :
    h₁ = h ∧ ∃ x, (results fn a.tmps).run P w = .ok x w ∧ VRel ρ v x := by
  have hrun : (results fn a.tmps).run P w = .ok (if hl : l.toArray.size = 1 then l.toArray[0] else .tuple l.toArray) w := by
    have hf : results fn a.tmps = (do let vs ← fn.results.mapM (resRead a.tmps); pure (if hl : vs.size = 1 then vs[0] else .tuple vs)) := by
      unfold results
      congr 2
    rw [hf, Array.mapM_eq_mapM_toList]
    simp only [Sem.run_bind, map_eq_pure_bind, hm, Result.andThen_ok, Sem.run_pure]
  unfold retV at hr
  split at hr
  · injection hr with e1 e2
    subst e1 e2
    obtain ⟨x, xs, rfl, r1, r2⟩ := r
    have r2 : xs = [] := r2
    subst r2
    exact ⟨rfl, x, by rw [hrun]; simp, r1⟩
  · rename_i hne
    injection hr with e1 e2
    subst e1 e2
    refine ⟨rfl, .tuple l.toArray, ?_, l, rfl, r⟩
    rw [hrun, dif_neg]
    intro h1
    have hlen := r.length
    simp only [List.size_toArray] at h1
    rw [h1] at hlen
    cases vs with
    | nil => simp at hlen
    | cons v vs =>
      cases vs with
      | nil => exact hne v rfl
      | cons u vs => simp at hlen

theorem leave_ok {fn : Func} {v : AV} {ρ0 : Rho} {h0 : Hp} {w0 : World} : ∀ (m : List Nat) (ds : List Deferred) (ρ : Rho) (h : Hp) (w : World), leave P om fn.results.toList t m h = .yes v h' → StRel ρ nt t a → MRel ρ m ds → Goes W om ρ0 h0 w0 ρ h w →
    LeavesInM Fence.wide 0 P fn a.tmps (fun | .returned x, w' => ∃ ρ', VRel ρ' v x ∧ Goes W om ρ0 h0 w0 ρ' h' w' | _, _ => False) ds .returning w
  | [], ds, ρ, h, w, hl, s, mr, g => by
    have mr : ds = [] := mr
    subst mr
    unfold leave shutMarks at hl
    simp only [] at hl
    split at hl
    · rename_i vs hvs
      obtain ⟨l, h1, h2⟩ := resOf_ok g.rel s _ _ hvs
      obtain ⟨e, x, h3, h4⟩ := results_ok hl h1 h2
      subst e
      exact ⟨x, h3, ρ, h4, g⟩
    · cases hl
  | i :: m, ds, ρ, h, w, hl, s, mr, g => by
    obtain ⟨L, rest, hL, rfl, mr⟩ := mr
    unfold leave shutMarks at hl
    cases hget : h.get i with
    | none => rw [hget] at hl; cases hl
    | some ob =>
      rw [hget] at hl
      cases ob <;> first | (cases hl; done) | skip
      rename_i b
      cases b with
      | false => cases hl
      | true =>
        obtain ⟨L', obj, e1, hblk, rfl, _⟩ := g.rel.objs i _ hget
        rw [hL] at e1; injection e1 with e1; subst e1
        have htake := run_takeDeferred (P := P) (ds := []) hblk
        have g2 : Goes W om ρ h w ρ (h.set i (.dfd false)) _ := Goes.set g.rel hget hL rfl (obj := .deferred none) rfl
        refine ⟨by simp, .inl ⟨L.blk, _, rfl, htake, ?_⟩⟩
        exact leave_ok m rest ρ (h.set i (.dfd false)) _ hl s mr (g.trans g2)

/-! ### a function entered -/
theorem enter_ok (hcall : CallOk W om P call) (hN : NameOk P) (hdraw : DrawOk W om P) {fuel f : Nat} {args : List AV} {A : List Value} {v : AV} (he : enter P om fuel call f args h = .yes v h') (ra : VRelL ρ args A) (rh : HRel W om ρ h w) :
    CallRes W om P ρ h w v h' ((callFunc f A.toArray).run P w) := by
  unfold enter at he
  split at he
  · rename_i fn hfn
    split at he
    · rename_i c hb
      cases hlen : Nat.ble args.length 200 with
      | false => rw [hlen] at he; cases he
      | true =>
        rw [hlen] at he
        simp only [Bool.not_true, cond_false] at he
        have hlen := ble_iff.1 hlen
        have hrun : (callFunc f A.toArray).run P w = .ok (.enter f A.toArray) w := by simp [callFunc, hfn, hb, hN f fn hfn]
        rw [hrun]
        have hal := ra.length
        have s0 : StRel ρ fn.ntmps (TT.ofL 0 args .e) { tmps := A.toArray ++ Array.replicate (fn.ntmps - A.toArray.size) Go.undef, defers := [] } := by
          refine ⟨fun i hi => ?_, by simp; omega⟩
          rw [TT.ofL_get _ _ _ i hi (by omega), TT.get_e, Array.getD_eq_getD_getElem?]
          by_cases hin : i < args.length
          · rw [if_pos (by omega), Array.getElem?_append_left (by simp; omega)]
            have hx : args[i]? = some args[i] := List.getElem?_eq_getElem hin
            obtain ⟨x, h1, h2⟩ := ra.get hx
            simp only [Nat.sub_zero, hx, Option.getD_some, List.getElem?_toArray, h1]
            exact h2
          · rw [if_neg (by omega), Array.getElem?_append_right (by simp; omega)]
            have : ((Array.replicate (fn.ntmps - A.toArray.size) Go.undef)[i - A.toArray.size]?).getD Go.undef = Go.undef := by
              rw [Array.getElem?_replicate]; split <;> rfl
            rw [this]
            exact undef_rel
        refine callsIn_of_wp_marks (F := Fence.wide) hfn hb trivial ?_ rfl
        have hcc := cc_ok (nt := fn.ntmps) hcall hN hdraw c fuel none (TT.ofL 0 args .e) [] h ρ { tmps := A.toArray ++ Array.replicate (fn.ntmps - A.toArray.size) Go.undef, defers := [] } w none
        cases e : cc P om fn.ntmps c fuel call none (TT.ofL 0 args .e) [] h with
        | no => rw [e] at he; cases he
        | nrm t m h₁ =>
          rw [e] at he hcc
          refine wpIn_mono (hcc (by simp) s0 rfl rh trivial) fun ex a' w' o => ?_
          obtain ⟨rfl, ρ', o⟩ := o
          exact leave_ok m a'.defers ρ' h₁ w' he o.st o.ma o.go
        | ex i t m h₁ => rw [e] at he; cases he
        | ret t m h₁ =>
          rw [e] at he hcc
          refine wpIn_mono (hcc (by simp) s0 rfl rh trivial) fun ex a' w' o => ?_
          obtain ⟨rfl, ρ', o⟩ := o
          exact leave_ok m a'.defers ρ' h₁ w' he o.st o.ma o.go
    · cases he
  · cases he

/-! ### a round of a loop over a function -/
theorem setPs_rel : ∀ (ps : List Nat) (vs : List AV) (l : List Value) (t : TT) (tmps : Array Value), VRelL ρ vs l → (∀ p ∈ ps, p < nt ∧ p < 256) → StRel ρ nt t { tmps, defers := [] } →
    StRel ρ nt (setPs ps vs t) { tmps := (ps.zip l).foldl (fun tmps (p : Nat × Value) => tmps.setIfInBounds p.1 p.2) tmps, defers := [] }
  | [], vs, l, t, tmps, _, _, s => by simpa [setPs] using s
  | p :: ps, [], l, t, tmps, r, _, s => by rw [r]; simpa [setPs] using s
  | p :: ps, v :: vs, l, t, tmps, r, hp, s => by
    obtain ⟨x, xs, rfl, r1, r2⟩ := r
    simp only [setPs, List.zip_cons_cons, List.foldl_cons]
    have hd : dstOk nt (some p) = true := by
      simp only [dstOk, Bool.and_eq_true]
      exact ⟨blt_iff.2 (hp p (by simp)).1, by unfold okT; exact blt_iff.2 (hp p (by simp)).2⟩
    exact setPs_rel ps vs xs _ _ r2 (fun q hq => hp q (by simp [hq])) (s.put (d := some p) hd r1)

theorem endRound_ok {l : Nat} {L : Loc} {ρ0 : Rho} {h0 : Hp} {w0 : World} {j : Option Jmp} {v : AV} (g : Goes W om ρ0 h0 w0 ρ h w) (hl : ρ l = some L) (he : endRound l j h = .yes v h') :
    ∃ x w', (Instr.endRound L.blk (j.map Jmp.code)).run P w = .ok x w' ∧ ∃ ρ', VRel ρ' v x ∧ Goes W om ρ0 h0 w0 ρ' h' w' := by
  unfold endRound at he
  cases hget : h.get l with
  | none => rw [hget] at he; cases he
  | some ob =>
    rw [hget] at he
    cases ob <;> first | (cases he; done) | skip
    rename_i st p nt' lt ps' assign' body' dfd
    obtain ⟨L', obj, e1, hblk, ⟨fn', tmps', D, rfl, hD, htr, hsz, hps⟩, _⟩ := g.rel.objs l _ hget
    rw [hl] at e1; injection e1 with e1; subst e1
    have hrun := run_endRound (P := P) (j.map Jmp.code) hblk
    cases j with
    | none =>
      injection he with e1 e2; subst e1 e2
      exact ⟨_, _, hrun, ρ, rfl, g.trans (Goes.set g.rel hget hl rfl ⟨fn', tmps', D, rfl, hD, htr, hsz, hps⟩)⟩
    | some j =>
      injection he with e1 e2; subst e1 e2
      exact ⟨_, _, hrun, ρ, rfl, g.trans (Goes.set g.rel hget hl rfl ⟨fn', tmps', D, rfl, hD, htr, hsz, hps⟩)⟩

theorem round_ok (hcall : CallOk W om P call) (hN : NameOk P) (hdraw : DrawOk W om P) {fuel l : Nat} {L : Loc} {args : List AV} {A : List Value} {v : AV} (he : round P om fuel call l args h = .yes v h') (hl : ρ l = some L) (ra : VRelL ρ args A) (rh : HRel W om ρ h w) :
    CallRes W om P ρ h w v h' ((Instr.yield L.blk A.toArray).run P w) := by
  unfold round at he
  cases hget : h.get l with
  | none => rw [hget] at he; cases he
  | some ob =>
    rw [hget] at he
    cases ob <;> first | (cases he; done) | skip
    rename_i st p nt t ps assign body dfd
    simp only [] at he
    cases hlen : Nat.beq args.length ps.length with
    | false => rw [hlen] at he; cases he
    | true =>
      rw [hlen] at he
      simp only [cond_true] at he
      have hlen := beq_iff.1 hlen
      obtain ⟨L', obj, e1, hblk, ⟨fn, tmps, D, rfl, hD, htr, hsz, hps⟩, _⟩ := rh.objs l _ hget
      rw [hl] at e1; injection e1 with e1; subst e1
      have hrun := run_yield (P := P) (args := A.toArray) hblk (by simp [ra.length, hlen])
      rw [hrun]
      have s0 := setPs_rel (nt := nt) ps args A t tmps ra hps ⟨htr, hsz⟩
      have hfold : (ps.toArray.zip A.toArray).foldl (fun (tmps : Array Value) (p : Nat × Value) => tmps.setIfInBounds p.1 p.2) tmps = (ps.zip A).foldl (fun (tmps : Array Value) (p : Nat × Value) => tmps.setIfInBounds p.1 p.2) tmps := by
        rw [← Array.foldl_toList]; simp
      refine roundIn_of_wpIn (F := Fence.wide) trivial ?_
      have hcc := cc_ok (nt := nt) hcall hN hdraw assign fuel (some l) (setPs ps args t) [] h ρ { tmps := (ps.zip A).foldl (fun (tmps : Array Value) (p : Nat × Value) => tmps.setIfInBounds p.1 p.2) tmps, defers := [] } w (some L.blk)
      rw [← hfold] at s0 hcc
      cases e : cc P om nt assign fuel call (some l) (setPs ps args t) [] h with
      | no => rw [e] at he; cases he
      | ex i t₁ m₁ h₁ => rw [e] at he; cases he
      | ret t₁ m₁ h₁ => rw [e] at he; cases he
      | nrm t₁ m₁ h₁ =>
        rw [e] at he hcc
        refine wpIn_mono (hcc (by simp) s0 rfl rh ⟨L, hl, rfl⟩) fun ex a₁ w₁ o => ?_
        obtain ⟨rfl, ρ₁, o⟩ := o
        have hl1 := o.go.ext l L hl
        simp only [runBody] at he
        cases hget1 : h₁.get l with
        | none => rw [hget1] at he; cases he
        | some ob =>
          rw [hget1] at he
          cases ob <;> first | (cases he; done) | skip
          rename_i st1 p1 nt1 lt1 ps1 assign1 body1 dfd1
          cases st1 <;> first | (cases he; done) | skip
          simp only [] at he
          obtain ⟨L', obj, e1, hblk1, ⟨fn1, tmps1, D1, rfl, hD1, htr1, hsz1, hps1⟩, _⟩ := o.go.rel.objs l _ hget1
          rw [hl1] at e1; injection e1 with e1; subst e1
          have hbeg := run_beginRound (P := P) hblk1 rfl
          have g2 : Goes W om ρ₁ h₁ w₁ ρ₁ (h₁.set l (.loop .busy p1 nt1 lt1 ps1 assign1 body1 dfd1)) _ := Goes.set o.go.rel hget1 hl1 rfl (obj := .loop { state := .busy, pending := p1.map Jmp.code, fn := fn1, tmps := tmps1, params := ps1.toArray, assign := assign1, body := body1, defers := D1.blk }) ⟨fn1, tmps1, D1, rfl, hD1, htr1, hsz1, hps1⟩
          refine ⟨_, hbeg, ?_⟩
          have g12 := o.go.trans g2
          have hcc2 := fun w2 => cc_ok (nt := nt) hcall hN hdraw body fuel (some l) t₁ m₁ (h₁.set l (.loop .busy p1 nt1 lt1 ps1 assign1 body1 dfd1)) ρ₁ a₁ w2 (some L.blk)
          cases e2 : cc P om nt body fuel call (some l) t₁ m₁ (h₁.set l (.loop .busy p1 nt1 lt1 ps1 assign1 body1 dfd1)) with
          | no => rw [e2] at he; cases he
          | nrm t₂ m₂ h₂ =>
            rw [e2] at he hcc2
            refine wpIn_mono (hcc2 _ (by simp) o.st o.ma g2.rel ⟨L, hl1, rfl⟩) fun ex a₂ w₂ o₂ => ?_
            obtain ⟨rfl, ρ₂, o₂⟩ := o₂
            exact endRound_ok (j := none) (g12.trans o₂.go) (o₂.go.ext l L hl1) he
          | ex i t₂ m₂ h₂ =>
            rw [e2] at he hcc2
            refine wpIn_mono (hcc2 _ (by simp) o.st o.ma g2.rel ⟨L, hl1, rfl⟩) fun ex a₂ w₂ o₂ => ?_
            obtain ⟨rfl, ρ₂, o₂⟩ := o₂
            exact endRound_ok (j := some (.ex i)) (g12.trans o₂.go) (o₂.go.ext l L hl1) he
          | ret t₂ m₂ h₂ =>
            rw [e2] at he hcc2
            refine wpIn_mono (hcc2 _ (by simp) o.st o.ma g2.rel ⟨L, hl1, rfl⟩) fun ex a₂ w₂ o₂ => ?_
            obtain ⟨rfl, ρ₂, o₂⟩ := o₂
            exact endRound_ok (j := some .ret) (g12.trans o₂.go) (o₂.go.ext l L hl1) he

/-! ### calls -/
/-- What is asked of the functions that are not entered. -/
def CtrOk (W : World) (om : OM) (P : Program) (C : Ctr) : Prop :=
  ∀ (f : Nat) (k : List AV → Hp → OVH), C f = some k → ∀ (ρ : Rho) (h : Hp) (w : World) (args : List AV) (A : List Value) (v : AV) (h' : Hp), VRelL ρ args A → HRel W om ρ h w → k args h = .yes v h' → CallRes W om P ρ h w v h' ((callFunc f A.toArray).run P w)

theorem callV_ok (hN : NameOk P) (hdraw : DrawOk W om P) {C : Ctr} (hC : CtrOk W om P C) (fuel : Nat) : ∀ d : Nat, CallOk W om P (callV P om C fuel d)
  | 0 => fun ρ h w fv F args A v h' _ _ _ he => by simp [callV] at he
  | d + 1 => fun ρ h w fv F args A v h' rf ra rh he => by
    simp only [callV] at he
    split at he
    · rename_i f first caps
      obtain ⟨l, m, rfl, r1, r2⟩ := rf
      have hrun : (do let d ← Deferred.ofValue (Value.func (.func f) l.toArray m.toArray) A.toArray; invoke d.target d.args : Sem Next).run P w = (callFunc f (l ++ A ++ m).toArray).run P w := by
        simp [Deferred.ofValue, invoke]
      rw [hrun]
      have rall : VRelL ρ (first ++ args ++ caps) (l ++ A ++ m) := (r1.append ra).append r2
      split at he
      · rename_i k hk
        exact hC f k hk ρ h w _ _ v h' rall rh he
      · exact enter_ok (callV_ok hN hdraw hC fuel d) hN hdraw he rall rh
    · rename_i l
      obtain ⟨L, hL, rfl⟩ := rf
      have hrun : (do let d ← Deferred.ofValue (Value.func (.yield L.blk) #[] #[]) A.toArray; invoke d.target d.args : Sem Next).run P w = (Instr.yield L.blk A.toArray).run P w := by
        simp [Deferred.ofValue, invoke]
      rw [hrun]
      exact round_ok (callV_ok hN hdraw hC fuel d) hN hdraw he hL ra rh
    · cases he
end
end Go.Ev
