/-
  What is proved: code does what its abstract run says, given that calls, and regions whose order is drawn, do. No condition of a program's.
-/
import Derived.Test.YtpdmljkmfdkfgaaGreatEvN
import Derived.RangeFuncIn
import Derived.RangeFuncRecord
import Derived.RangeFuncNested
import Derived.Conc.LoneSelect
namespace Go.Ev

section
variable {W : World} {om : OM} {P : Program} {ρ ρ' : Rho} {h h' : Hp} {w w' : World} {t t' : TT} {a : Act}

/-! ### a loop, by a bound on its rounds -/
theorem wpIn_loop_le {F : Fence} {n : Nat} {Q : Exit → Act → World → Prop} {c : Code} (I : Nat → Act → World → Prop) {k : Nat} (h0 : I k a w)
    (round : ∀ k a w, I k a w → ∃ j, k = j + 1 ∧ c.wpIn F n P (Exit.then (fun a' w' => I j a' w') Q) a w) : (Code.loop c).wpIn F n P Q a w := by
  classical
  have least : ∀ a w, (∃ k, I k a w) → ∃ k, I k a w ∧ ∀ j, I j a w → k ≤ j := fun a w hx => by
    obtain ⟨k, hk⟩ := hx
    induction k using Nat.strongRecOn with
    | _ k ih =>
      by_cases hj : ∃ j, j < k ∧ I j a w
      · obtain ⟨j, h1, h2⟩ := hj; exact ih j h1 h2
      · exact ⟨k, hk, fun j hj2 => Nat.le_of_not_lt fun hlt => hj ⟨j, hlt, hj2⟩⟩
  let μ : Act → World → Nat := fun a w => if hx : ∃ k, I k a w then (least a w hx).choose else 0
  have hμ : ∀ a w, (∃ k, I k a w) → I (μ a w) a w ∧ ∀ j, I j a w → μ a w ≤ j := fun a w hx => by
    have : μ a w = (least a w hx).choose := dif_pos hx
    rw [this]
    exact (least a w hx).choose_spec
  refine wpIn_loop (fun a w => ∃ k, I k a w) μ ⟨k, h0⟩ fun a w hx => ?_
  obtain ⟨h1, _⟩ := hμ a w hx
  obtain ⟨j, e, h2⟩ := round _ a w h1
  refine wpIn_mono h2 fun ex a' w' hq => ?_
  cases ex <;> simp only [Exit.then] at hq ⊢ <;> try exact hq
  exact ⟨⟨j, hq⟩, by have := (hμ a' w' ⟨j, hq⟩).2 j hq; omega⟩

/-! ### what code comes to -/
def MRel (ρ : Rho) : List Nat → List Deferred → Prop
  | [], ds => ds = []
  | i :: m, ds => ∃ L rest, ρ i = some L ∧ ds = { target := .collected L.blk, args := #[] } :: rest ∧ MRel ρ m rest

theorem MRel.mono (hle : ρ.le ρ') : ∀ {m : List Nat} {ds : List Deferred}, MRel ρ m ds → MRel ρ' m ds
  | [], _, r => r
  | _ :: _, _, r => let ⟨L, rest, h1, h2, h3⟩ := r; ⟨L, rest, hle _ _ h1, h2, MRel.mono hle h3⟩

def RdRel (ρ : Rho) : Option Nat → Option Nat → Prop
  | none, none => True
  | some i, some b => ∃ L, ρ i = some L ∧ L.blk = b
  | _, _ => False
theorem RdRel.mono (hle : ρ.le ρ') {x y : Option Nat} (r : RdRel ρ x y) : RdRel ρ' x y := by
  cases x <;> cases y <;> first | exact r | (obtain ⟨L, h1, h2⟩ := r; exact ⟨L, hle _ _ h1, h2⟩)

/-- A frame's state behind code. -/
structure Aft (W : World) (om : OM) (ρ : Rho) (h : Hp) (w : World) (nt : Nat) (t : TT) (m : List Nat) (h' : Hp) (a' : Act) (w' : World) (ρ' : Rho) : Prop where
  st : StRel ρ' nt t a'
  ma : MRel ρ' m a'.defers
  go : Goes W om ρ h w ρ' h' w'

def Out (W : World) (om : OM) (ρ : Rho) (h : Hp) (w : World) (nt : Nat) : RC → Exit → Act → World → Prop
  | .no, _, _, _ => False
  | .nrm t m h', e, a', w' => e = .normal ∧ ∃ ρ', Aft W om ρ h w nt t m h' a' w' ρ'
  | .ex i t m h', e, a', w' => e = .exit i ∧ ∃ ρ', Aft W om ρ h w nt t m h' a' w' ρ'
  | .ret t m h', e, a', w' => e = .ret ∧ ∃ ρ', Aft W om ρ h w nt t m h' a' w' ρ'

theorem Out.before {ρ₁ : Rho} {h₁ : Hp} {w₁ : World} {nt : Nat} {r : RC} {e : Exit} {a' : Act} {w' : World} (g : Goes W om ρ h w ρ₁ h₁ w₁) (o : Out W om ρ₁ h₁ w₁ nt r e a' w') : Out W om ρ h w nt r e a' w' := by
  cases r with
  | no => exact o
  | nrm t m h' => obtain ⟨e, ρ', x⟩ := o; exact ⟨e, ρ', x.st, x.ma, g.trans x.go⟩
  | ex i t m h' => obtain ⟨e, ρ', x⟩ := o; exact ⟨e, ρ', x.st, x.ma, g.trans x.go⟩
  | ret t m h' => obtain ⟨e, ρ', x⟩ := o; exact ⟨e, ρ', x.st, x.ma, g.trans x.go⟩

def CdeOk (W : World) (om : OM) (P : Program) (nt : Nat) (call : CallF) (c : Code) (x : Cde) : Prop :=
  ∀ (fuel : Nat) (rd : Option Nat) (t : TT) (m : List Nat) (h : Hp) (ρ : Rho) (a : Act) (w : World) (r0 : Option Nat), x fuel call rd t m h ≠ .no → StRel ρ nt t a → MRel ρ m a.defers → HRel W om ρ h w → RdRel ρ rd r0 →
    c.wpIn (Fd r0) 0 P (Out W om ρ h w nt (x fuel call rd t m h)) a w

/-- What is asked of regions whose order is drawn. -/
def DrawOk (W : World) (om : OM) (P : Program) : Prop :=
  ∀ (call : CallF) (nt : Nat) (ops : Array Oper) (t t' : TT) (h h' : Hp) (ρ : Rho) (a : Act) (w : World) (r : Option Nat) (Q : Exit → Act → World → Prop) (k : Nat), CallOk W om P call → drawC P om nt ops call t h = .yes t' h' → StRel ρ nt t a → HRel W om ρ h w →
    (∀ ρ' a' w', StRel ρ' nt t' a' → a'.defers = a.defers → Goes W om ρ h w ρ' h' w' → Q .normal a' w') → wpOpsIn (Fd r) 0 P ops Q (Region.schedule (P.follows .mixedOrders) ops k) a { w with drawn := w.drawn + 1 }

variable {nt : Nat} {call : CallF}

theorem cSeq_ok {x y : Code} {cx cy : Cde} (hx : CdeOk W om P nt call x cx) (hy : CdeOk W om P nt call y cy) : CdeOk W om P nt call (.seq x y) (cSeq cx cy) := by
  intro fuel rd t m h ρ a w r0 hne s mr rh rr
  simp only [cSeq] at hne ⊢
  have hx' := hx fuel rd t m h ρ a w r0
  refine wpIn_seq ?_
  cases e : cx fuel call rd t m h with
  | no => rw [e] at hne; exact absurd rfl hne
  | nrm t₁ m₁ h₁ =>
    rw [e] at hne hx'
    refine wpIn_mono (hx' (by simp) s mr rh rr) fun ex a₁ w₁ o => ?_
    obtain ⟨rfl, ρ₁, o⟩ := o
    exact wpIn_mono (hy fuel rd t₁ m₁ h₁ ρ₁ a₁ w₁ r0 hne o.st o.ma o.go.rel (rr.mono o.go.ext)) fun ex a₂ w₂ o₂ => o₂.before o.go
  | ex i t₁ m₁ h₁ =>
    rw [e] at hx'
    refine wpIn_mono (hx' (by simp) s mr rh rr) fun ex a₁ w₁ o => ?_
    obtain ⟨rfl, o⟩ := o
    exact ⟨rfl, o⟩
  | ret t₁ m₁ h₁ =>
    rw [e] at hx'
    refine wpIn_mono (hx' (by simp) s mr rh rr) fun ex a₁ w₁ o => ?_
    obtain ⟨rfl, o⟩ := o
    exact ⟨rfl, o⟩

theorem cCond_ok {c : Operand} {g : Get} {x y : Code} {cx cy : Cde} (hc : opd c = some g) (hx : CdeOk W om P nt call x cx) (hy : CdeOk W om P nt call y cy) : CdeOk W om P nt call (.cond c x y) (cCond g cx cy) := by
  intro fuel rd t m h ρ a w r0 hne s mr rh rr
  have rc := opd_rel hc s.tr
  simp only [cCond] at hne ⊢
  cases e : g t with
  | bool b =>
    rw [e] at rc hne
    have ec : a.eval c = .bool b := rc
    cases b with
    | true => exact wpIn_cond_true ec (hx fuel rd t m h ρ a w r0 hne s mr rh rr)
    | false => exact wpIn_cond_false ec (hy fuel rd t m h ρ a w r0 hne s mr rh rr)
  | _ => rw [e] at hne; exact absurd rfl hne

theorem cBlk_ok {id : Nat} {x : Code} {cx : Cde} (hx : CdeOk W om P nt call x cx) : CdeOk W om P nt call (.block id x) (cBlk id cx) := by
  intro fuel rd t m h ρ a w r0 hne s mr rh rr
  simp only [cBlk] at hne ⊢
  have hx' := hx fuel rd t m h ρ a w r0
  refine wpIn_block ?_
  cases e : cx fuel call rd t m h with
  | no => rw [e] at hne; exact absurd rfl hne
  | nrm t₁ m₁ h₁ =>
    rw [e] at hx'
    refine wpIn_mono (hx' (by simp) s mr rh rr) fun ex a₁ w₁ o => ?_
    obtain ⟨rfl, o⟩ := o
    exact ⟨rfl, o⟩
  | ex i t₁ m₁ h₁ =>
    rw [e] at hx'
    refine wpIn_mono (hx' (by simp) s mr rh rr) fun ex a₁ w₁ o => ?_
    obtain ⟨rfl, o⟩ := o
    simp only [Exit.inBlock]
    cases hb : Nat.beq i id with
    | true => rw [if_pos (beq_iff.1 hb)]; exact ⟨rfl, o⟩
    | false => rw [if_neg (fun e => by rw [beq_iff.2 e] at hb; cases hb)]; exact ⟨rfl, o⟩
  | ret t₁ m₁ h₁ =>
    rw [e] at hx'
    refine wpIn_mono (hx' (by simp) s mr rh rr) fun ex a₁ w₁ o => ?_
    obtain ⟨rfl, o⟩ := o
    exact ⟨rfl, o⟩

theorem cLoop_ok {x : Code} {cx : Cde} (hx : CdeOk W om P nt call x cx) : CdeOk W om P nt call (.loop x) (cLoop cx) := by
  intro fuel rd t m h ρ a w r0 hne s mr rh rr
  let go : Nat → TT → List Nat → Hp → RC := fun k => Nat.rec (motive := fun _ => TT → List Nat → Hp → RC) (fun _ _ _ => .no)
    (fun _ ih t m h => RC.casesOn (cx fuel call rd t m h) .no (fun t m h => ih t m h) (fun i t m h => .ex i t m h) (fun t m h => .ret t m h)) k
  have hgo : cLoop cx fuel call rd t m h = go fuel t m h := rfl
  rw [hgo] at hne ⊢
  refine wpIn_loop_le (k := fuel) (fun k a₁ w₁ => ∃ t₁ m₁ h₁ ρ₁, go k t₁ m₁ h₁ = go fuel t m h ∧ Aft W om ρ h w nt t₁ m₁ h₁ a₁ w₁ ρ₁) ⟨t, m, h, ρ, rfl, s, mr, Goes.refl rh⟩ ?_
  rintro k a₁ w₁ ⟨t₁, m₁, h₁, ρ₁, e1, o⟩
  cases k with
  | zero => exact absurd e1.symm hne
  | succ k =>
    refine ⟨k, rfl, ?_⟩
    have hstep : go (k + 1) t₁ m₁ h₁ = RC.casesOn (cx fuel call rd t₁ m₁ h₁) .no (fun t m h => go k t m h) (fun i t m h => .ex i t m h) (fun t m h => .ret t m h) := rfl
    have hx' := hx fuel rd t₁ m₁ h₁ ρ₁ a₁ w₁ r0
    cases e : cx fuel call rd t₁ m₁ h₁ with
    | no => rw [e] at hstep; rw [← e1, hstep] at hne; exact absurd rfl hne
    | nrm t₂ m₂ h₂ =>
      rw [e] at hstep hx'
      refine wpIn_mono (hx' (by simp) o.st o.ma o.go.rel (rr.mono o.go.ext)) fun ex a₂ w₂ o₂ => ?_
      obtain ⟨rfl, ρ₂, o₂⟩ := o₂
      exact ⟨t₂, m₂, h₂, ρ₂, by rw [← e1, hstep], o₂.st, o₂.ma, o.go.trans o₂.go⟩
    | ex i t₂ m₂ h₂ =>
      rw [e] at hstep hx'
      refine wpIn_mono (hx' (by simp) o.st o.ma o.go.rel (rr.mono o.go.ext)) fun ex a₂ w₂ o₂ => ?_
      obtain ⟨rfl, ρ₂, o₂⟩ := o₂
      show Out W om ρ h w nt (go fuel t m h) _ _ _
      rw [← e1, hstep]
      exact ⟨rfl, ρ₂, o₂.st, o₂.ma, o.go.trans o₂.go⟩
    | ret t₂ m₂ h₂ =>
      rw [e] at hstep hx'
      refine wpIn_mono (hx' (by simp) o.st o.ma o.go.rel (rr.mono o.go.ext)) fun ex a₂ w₂ o₂ => ?_
      obtain ⟨rfl, ρ₂, o₂⟩ := o₂
      show Out W om ρ h w nt (go fuel t m h) _ _ _
      rw [← e1, hstep]
      exact ⟨rfl, ρ₂, o₂.st, o₂.ma, o.go.trans o₂.go⟩

theorem reg_steps {F : Fence} {id n : Nat} {ops : Array Oper} {Q : Exit → Act → World → Prop}
    (h : ∀ (b : Frame) (k : List Item) (cs : List Frame), b.roundOf = F.round → F.fn b.fn → F.room (cs.length + 1 + n) →
      ∃ e a' w', Q e a' w' ∧ ArrivesIn (Machine.fenced P F) P (lone (b.atR a (.inRegion ops (List.range ops.size) :: k)) cs w) b k cs e a' w') : (Code.region id ops false).wpIn F n P Q a w :=
  fun b k cs hro hb hr => let ⟨e, a', w', q, r⟩ := h b k cs hro hb hr; ⟨e, a', w', q, .of_steps (.one (fenced_calm hb hr rfl) stepR_region) r⟩

/-- A channel asked, without waiting. -/
theorem select_step {b : Frame} {k : List Item} {cs : List Frame} {ops : Array Oper} {i : Nat} {l : List Nat} {o : Oper} {c : SelectCase} {z : Value} {ch : Nat} {cl : Bool} (ho : ops[i]? = some o) (hop : o.op = .select #[c] false) (hg : o.guard = none) (hs : c.send = none)
    (hz : ∀ w, (zeroValue c.elem).run P w = .ok z w) (hch : a.eval c.chan = .chan (some ch)) (hc : w.heap[ch]? = some (.chan 0 #[] cl 0 0 false)) :
    step P (lone (b.atR a (.inRegion ops (i :: l) :: k)) cs w) = .next (lone (b.atR (a.put o.dst (.tuple #[.int .i64 (if cl then 0 else -1), .bool false, z])) (.inRegion ops l :: k)) cs w) := by
  have hw : Region.wanted o (yielded ops a.tmps) = true := by unfold Region.wanted; rw [hg]
  have hstep := stepGR_op (P := P) (b := b) (a := a) (k := k) (cs := cs) (w := w) (rest := l) ho hw
  rw [Oper.semAt_eq _ _ _ (fun c' e => by rw [hop] at e; cases e)] at hstep
  have hrun : (execOp a.eval o).run P w = .ok (.comm #[Go.Conc.rcase ch z] false .select) w := by
    simp [execOp, hop, hs, hz, hch, Go.Conc.rcase]
  have hcomm : ∃ es, stepG P true (Go.Conc.G (b.atR a (.inRegion ops (i :: l) :: k)) cs) w = .comm (Go.Conc.G (b.atR a (.inRegion ops (i :: l) :: k)) cs) #[Go.Conc.rcase ch z] false .select w es := by
    show ∃ es, stepG P true { frame := b.atR a (.inRegion ops (i :: l) :: k), callers := cs, status := .running, dying := none } w = _
    rw [hstep]
    simp only [stepG.apply, Sem.runT_eq, hrun]
    exact ⟨_, rfl⟩
  obtain ⟨es, hcomm⟩ := hcomm
  have hfin : ∀ v, (b.atR a (.inRegion ops (i :: l) :: k)).finish v = b.atR (a.put o.dst v) (.inRegion ops l :: k) := by
    intro v; rw [Frame.finish_atR, ho]; rfl
  rw [Go.Conc.lone_eq_solo, Go.Conc.lone_eq_solo]
  cases cl with
  | true => rw [Go.Conc.step_lone_select_recv_shut hcomm hc, hfin]; rfl
  | false => rw [Go.Conc.step_lone_select_default hcomm hc, hfin]; rfl

theorem regS_cases {dsts : List (Option Nat)} {l : List Oper} (e : regS P om nt dsts l call t h = .yes t' h') : regC P om nt dsts l call t h = .yes t' h' ∨
    ∃ o rest c ch z r cl, l = o :: rest ∧ o.op = .select #[c] false ∧ o.guard = none ∧ c.send = none ∧ opd c.chan = some ch ∧ tyZeroV P c.elem = .yes z ∧ dstOk nt o.dst = true ∧ ch t = .at (.chan r) ∧ h.get r = some (.chan cl) ∧
      regC P om nt dsts rest call (putT o.dst (.tup [.int .i64 (bif cl then .ofNat 0 else .negSucc 0), .bool false, z]) t) h = .yes t' h' := by
  cases l with
  | nil => exact .inl e
  | cons o rest =>
    unfold regS at e
    simp only [] at e
    cases hop : o.op <;> rw [hop] at e <;> try exact .inl e
    rename_i cs b
    simp only [] at e
    cases b with
    | true => cases e
    | false =>
    cases hcs : cs.toList with
    | nil => rw [hcs] at e; cases e
    | cons c cs2 =>
    cases cs2 with
    | cons _ _ => rw [hcs] at e; cases e
    | nil =>
    cases hgd : o.guard with
    | some _ => rw [hcs, hgd] at e; cases e
    | none =>
    rw [hcs, hgd] at e
    simp only [] at e
    cases hsend : c.send with
    | some _ => rw [hsend] at e; cases e
    | none =>
    rw [hsend] at e
    cases hch : opd c.chan with
    | none => rw [hch] at e; cases e
    | some ch =>
    rw [hch] at e
    cases hz : tyZeroV P c.elem with
    | no => rw [hz] at e; cases e
    | yes z =>
    rw [hz] at e
    simp only [] at e
    cases hd : dstOk nt o.dst with
    | false => rw [hd] at e; cases e
    | true =>
    rw [hd] at e
    simp only [cond_true] at e
    unfold selC at e
    split at e
    · rename_i r hr
      split at e
      · rename_i cl hget
        exact .inr ⟨o, rest, c, ch, z, r, cl, rfl, by rw [hop, arr_of_toList hcs], hgd, hsend, hch, hz, hd, hr, hget, e⟩
      · cases e
    · cases e

theorem cReg_ok (hcall : CallOk W om P call) {id : Nat} {ops : Array Oper} : CdeOk W om P nt call (.region id ops false) (cReg (regS P om nt (ops.toList.map (·.dst)) ops.toList)) := by
  intro fuel rd t m h ρ a w r0 hne s mr rh rr
  simp only [cReg] at hne ⊢
  cases e : regS P om nt (ops.toList.map (·.dst)) ops.toList call t h with
  | no => rw [e] at hne; exact absurd rfl hne
  | yes t' h' =>
    have plain : regC P om nt (ops.toList.map (·.dst)) ops.toList call t h = .yes t' h' → (Code.region id ops false).wpIn (Fd r0) 0 P (Out W om ρ h w nt (.nrm t' m h')) a w := fun e => by
      refine wpIn_region ?_
      have := regC_sound (r := r0) (Q := Out W om ρ h w nt (.nrm t' m h')) hcall ops.toList 0 ρ t h w a rfl e s rh fun ρ' a' w' s' d g => ⟨rfl, ρ', s', by rw [d]; exact mr.mono g.ext, g⟩
      rw [Array.length_toList, ← List.range_eq_range'] at this
      exact this
    rcases regS_cases e with e | ⟨o, rest, c, ch, z, r, cl, hl, hop, hgd, hsend, hch, hz, hd, hr, hget, e⟩
    · exact plain e
    · have rch := opd_rel hch s.tr
      rw [hr] at rch
      obtain ⟨L, hL, ech⟩ := rch
      obtain ⟨L', obj, q1, hblk, rfl, _⟩ := rh.objs r _ hget
      rw [hL] at q1; injection q1 with q1; subst q1
      obtain ⟨zv, hzv, hzr⟩ := tyZeroV_run hz
      have ho : ops[0]? = some o := by rw [← Array.getElem?_toList, hl]; rfl
      have hv : VRel ρ (.tup [.int .i64 (bif cl then .ofNat 0 else .negSucc 0), .bool false, z]) (.tuple #[.int .i64 (if cl then 0 else -1), .bool false, zv]) :=
        ⟨[_, _, _], rfl, _, _, rfl, by cases cl <;> rfl, _, _, rfl, rfl, _, _, rfl, hzr ρ, rfl⟩
      have s1 := s.put hd hv
      have hrest : ops.toList.drop 1 = rest := by rw [hl]; rfl
      have hw := regC_sound (r := r0) (Q := Out W om ρ h w nt (.nrm t' m h')) hcall rest 1 ρ _ h w _ hrest e s1 rh fun ρ' a' w' s' d g => ⟨rfl, ρ', s', by rw [d, put_defers]; exact mr.mono g.ext, g⟩
      refine reg_steps fun b' k cs' hro hb hroom => ?_
      have hrange : List.range ops.size = 0 :: List.range' 1 rest.length := by
        have : ops.size = rest.length + 1 := by rw [← Array.length_toList, hl]; simp
        rw [this, List.range_eq_range', List.range'_succ]
      rw [hrange]
      obtain ⟨e2, a2, w2, p1, p2⟩ := wp_opsIn _ _ w hw b' k cs' hro hb hroom
      exact ⟨e2, a2, w2, p1, .of_steps (.one (fenced_oper hb hroom ho fun _ _ => trivial) (select_step ho hop hgd hsend hzv ech hblk)) p2⟩

theorem cDraw_ok (hdraw : DrawOk W om P) (hcall : CallOk W om P call) {id : Nat} {ops : Array Oper} : CdeOk W om P nt call (.region id ops true) (cReg (drawC P om nt ops)) := by
  intro fuel rd t m h ρ a w r0 hne s mr rh rr
  simp only [cReg] at hne ⊢
  cases e : drawC P om nt ops call t h with
  | no => rw [e] at hne; exact absurd rfl hne
  | yes t' h' =>
    exact wpIn_region_draw fun k => hdraw call nt ops t t' h h' ρ a w r0 _ k hcall e s rh fun ρ' a' w' s' d g => ⟨rfl, ρ', s', by rw [d]; exact mr.mono g.ext, g⟩

/-! ### a loop over a function -/
def NameOk (P : Program) : Prop := ∀ (f : Nat) (fn : Func), P.funcs[f]? = some fn → fn.name ≠ "runtime.NumGoroutine"

theorem enters (hN : NameOk P) {fv : AV} {F : Value} {A : List Value} (hf : hasText P fv = true) (r : VRel ρ fv F) : ∃ f args d, (Deferred.ofValue F A.toArray).run P w = .ok d w ∧ (invoke d.target d.args).run P w = .ok (.enter f args) w := by
  unfold hasText at hf
  split at hf
  · rename_i f first caps
    obtain ⟨l, m, rfl, r1, r2⟩ := r
    split at hf
    · rename_i fn hfn
      split at hf
      · rename_i c hb
        refine ⟨f, l.toArray ++ A.toArray ++ m.toArray, { target := .fn (.func f) m.toArray, args := l.toArray ++ A.toArray }, rfl, ?_⟩
        simp [invoke, callFunc, hfn, hb, hN f fn hfn]
      · cases hf
    · cases hf
  · cases hf

theorem cRangeGo_ok (hcall : CallOk W om P call) (hN : NameOk P) {g : Operand} {ps : Array Tmp} {assign body : Code} {fv : AV} {l : Nat} {t : TT} {m : List Nat} {mark : List Deferred} {h0 h : Hp} {w0 w : World} {ρ0 : Rho} {L : Loc} {a : Act} {r0 : Option Nat} {fn : FuncId}
    (hne : cRangeGo call fv t l m h ≠ .no) (hf : hasText P fv = true) (s : StRel ρ nt t a) (mr : MRel ρ m (mark ++ a.defers)) (g0 : Goes W om ρ0 h0 w0 ρ h w) (hg : VRel ρ fv (a.eval g)) (hl : ρ l = some L)
    (he : (Instr.enterLoop fn a.tmps ps assign body (Fd r0).round).run P w0 = .ok (L.blk, mark) w) :
    ∃ (l' : Nat) (mark : List Deferred) (w₁ : World) (d : Deferred) (w₁' : World) (f : FuncId) (args : Array Value) (w₂ : World),
      (Instr.enterLoop fn a.tmps ps assign body (Fd r0).round).run P w0 = .ok (l', mark) w₁ ∧
      (resolve a.eval (rangeCall g l') 0).run P w₁ = .ok d w₁' ∧
      (∀ f', Target.leads P w₁' d.target d.args = some f' → (Fd r0).fn f') ∧
      (invoke d.target d.args).run P w₁' = .ok (.enter f args) w₂ ∧
      ((Fd r0).depth.isSome = true → 1 ≤ 0) ∧
      CallsIn (Fd r0) (0 - 1) P f args w₂ (rangePost (Fd r0) 0 P l' (Out W om ρ0 h0 w0 nt (cRangeGo call fv t l m h)) { a with defers := mark ++ a.defers }) := by
  have rh := g0.rel
  have ra : VRelL ρ [.at (.yield l)] [.func (.yield L.blk) #[] #[]] := ⟨_, _, rfl, ⟨L, hl, rfl⟩, rfl⟩
  obtain ⟨f, args, d, hd, hinv⟩ := enters (w := w) (A := [.func (.yield L.blk) #[] #[]]) hN hf hg
  unfold cRangeGo at hne ⊢
  cases hc : call fv [.at (.yield l)] h with
  | no => rw [hc] at hne; exact absurd rfl hne
  | yes v h₁ =>
    rw [hc] at hne
    have hr := hcall ρ h w fv _ _ _ v h₁ hg ra rh hc
    rw [show (do let d ← Deferred.ofValue (a.eval g) [Value.func (.yield L.blk) #[] #[]].toArray; invoke d.target d.args : Sem Next).run P w = .ok (.enter f args) w by simp only [Sem.run_bind, hd, Result.andThen_ok, hinv]] at hr
    refine ⟨L.blk, mark, w, d, w, f, args, w, he, ?_, fun _ _ => trivial, hinv, fun hd => (by cases hd), CallsIn.mono (F := Fence.wide) hr fun e w' hx => ?_⟩
    · have hm : Array.map a.eval #[Operand.const (Value.func (.yield L.blk) #[] #[])] = #[Value.func (.yield L.blk) #[] #[]] := by simp [Act.eval]
      simp only [resolve, hm]
      exact hd
    · cases e with
      | panicked ch => exact hx.elim
      | outgrown => exact hx.elim
      | returned x =>
        obtain ⟨ρ', _, g1⟩ := hx
        simp only [] at hne ⊢
        cases hget : h₁.get l with
        | none => rw [hget] at hne; exact absurd rfl hne
        | some ob =>
          rw [hget] at hne
          cases ob <;> first | exact absurd rfl hne | skip
          rename_i st p nt' lt ps' assign' body' dfd
          have hl' := g1.ext l L hl
          obtain ⟨L', obj, e1, hblk, ⟨fn', tmps', D, rfl, hD, htr, hsz, hps⟩, _⟩ := g1.rel.objs l _ hget
          rw [hl'] at e1; injection e1 with e1; subst e1
          have hnb : st ≠ .busy := fun e => by rw [e] at hne; exact absurd rfl hne
          have hend := run_endLoop (P := P) hblk (by cases st <;> first | exact absurd rfl hnb | (intro e; cases e))
          have g2 : Goes W om ρ' h₁ w' ρ' (h₁.set l (.loop .exhausted p nt' lt ps' assign' body' dfd)) _ := Goes.set g1.rel hget hl' rfl (obj := .loop { state := .exhausted, pending := p.map Jmp.code, fn := fn', tmps := tmps', params := ps'.toArray, assign := assign', body := body', defers := D.blk }) ⟨fn', tmps', D, rfl, hD, htr, hsz, hps⟩
          have g3 := (g0.trans g1).trans g2
          refine ⟨_, _, hend, ?_⟩
          have s3 : StRel ρ' nt t { a with defers := mark ++ a.defers } := ⟨s.tr.mono g1.ext, s.sz⟩
          have m3 : MRel ρ' m (mark ++ a.defers) := mr.mono g1.ext
          cases st with
          | busy => exact absurd rfl hnb
          | _ =>
            cases p with
            | none => exact ⟨rfl, ρ', s3, m3, g3⟩
            | some j =>
              cases j with
              | ret => exact wpIn_ret ⟨rfl, ρ', s3, m3, g3⟩
              | ex i => exact wpIn_exit ⟨rfl, ρ', s3, m3, g3⟩

theorem cRange_ok (hcall : CallOk W om P call) (hN : NameOk P) {g : Operand} {gf : Get} {ps : Array Tmp} {assign body : Code} (hg : opd g = some gf) : CdeOk W om P nt call (.rangeFunc g ps assign body) (cRange P nt gf ps.toList assign body) := by
  intro fuel rd t m h ρ a w r0 hne s mr rh rr
  have rg := opd_rel hg s.tr
  refine wpIn_rangeFunc fun fn _ => ?_
  unfold cRange at hne ⊢
  cases hb : (ps.toList.all (fun p => Nat.blt p nt && okT p) && hasText P (gf t)) with
  | false => rw [hb] at hne; exact absurd rfl hne
  | true =>
    rw [hb] at hne
    simp only [Bool.not_true, cond_false] at hne ⊢
    rw [Bool.and_eq_true] at hb
    obtain ⟨hb1, hb2⟩ := hb
    have hps : ∀ p ∈ ps.toList, p < nt ∧ p < 256 := fun p hp => by
      have := List.all_eq_true.1 hb1 p hp
      rw [Bool.and_eq_true] at this
      exact ⟨blt_iff.1 this.1, okT_lt this.2⟩
    cases rd with
    | none =>
      cases r0 with
      | some b => exact rr.elim
      | none =>
        rw [forceN_eq] at hne ⊢
        obtain ⟨ρ1, e1, g1⟩ := Goes.new (o := .dfd true) (obj := .deferred (some [])) ⟨w.heap.size, 0, 0, 0⟩ rh rfl fun _ _ _ => rfl
        obtain ⟨ρ2, e2, g2⟩ := Goes.new (o := .loop .ready none nt t ps.toList assign body h.nx) (obj := .loop { state := .ready, pending := none, fn, tmps := a.tmps, params := ps, assign, body, defers := w.heap.size }) ⟨w.heap.size + 1, 0, 0, 0⟩ g1.rel (by simp) fun ρ' hle _ =>
          ⟨fn, a.tmps, ⟨w.heap.size, 0, 0, 0⟩, by simp [LSt.st], hle _ _ e1, s.tr.mono (Rho.le_trans g1.ext hle), s.sz, hps⟩
        rw [Hp.nx_new] at e2
        have g12 := g1.trans g2
        exact cRangeGo_ok hcall hN (r0 := none) (fn := fn) (g := g) (ps := ps) (assign := assign) (body := body) hne hb2 (s.mono g12.ext) ⟨_, _, g2.ext _ _ e1, rfl, mr.mono g12.ext⟩ g12 (VRel.mono g12.ext _ _ rg) e2
          (run_enterLoop_outer fn a.tmps ps assign body)
    | some r =>
      cases r0 with
      | none => exact rr.elim
      | some b =>
        obtain ⟨Lr, hr1, hr2⟩ := rr
        subst hr2
        simp only [] at hne ⊢
        cases hget : h.get r with
        | none => rw [hget] at hne; exact absurd rfl hne
        | some ob =>
          rw [hget] at hne
          cases ob <;> first | exact absurd rfl hne | skip
          rename_i st p nt' lt ps' assign' body' dfd
          simp only [forceN_eq] at hne ⊢
          obtain ⟨L', obj, q1, hblk, ⟨fn', tmps', D, rfl, hD, htr, hsz, hps'⟩, _⟩ := rh.objs r _ hget
          rw [hr1] at q1; injection q1 with q1; subst q1
          obtain ⟨ρ2, e2, g2⟩ := Goes.new (o := .loop .ready none nt t ps.toList assign body dfd) (obj := .loop { state := .ready, pending := none, fn, tmps := a.tmps, params := ps, assign, body, defers := D.blk }) ⟨w.heap.size, 0, 0, 0⟩ rh rfl fun ρ' hle _ =>
            ⟨fn, a.tmps, D, by simp [LSt.st], hle _ _ hD, s.tr.mono hle, s.sz, hps⟩
          exact cRangeGo_ok hcall hN (r0 := some Lr.blk) (fn := fn) (g := g) (ps := ps) (assign := assign) (body := body) (mark := []) hne hb2 (s.mono g2.ext) (mr.mono g2.ext) g2 (VRel.mono g2.ext _ _ rg) e2
            (run_enterLoop_inner hblk fn a.tmps ps assign body)

theorem cc_ok (hcall : CallOk W om P call) (hN : NameOk P) (hdraw : DrawOk W om P) : ∀ c : Code, CdeOk W om P nt call c (cc P om nt c)
  | .skip => fun _ _ t m h ρ a w _ _ s mr rh _ => wpIn_skip ⟨rfl, ρ, s, mr, Goes.refl rh⟩
  | .label _ => fun _ _ t m h ρ a w _ _ s mr rh _ => wpIn_label ⟨rfl, ρ, s, mr, Goes.refl rh⟩
  | .region _ ops false => cReg_ok hcall
  | .region _ ops true => cDraw_ok hdraw hcall
  | .seq x y => cSeq_ok (cc_ok hcall hN hdraw x) (cc_ok hcall hN hdraw y)
  | .cond c x y => by
    unfold cc
    cases hc : opd c with
    | none => exact fun _ _ _ _ _ _ _ _ _ hne => absurd rfl hne
    | some g => exact cCond_ok hc (cc_ok hcall hN hdraw x) (cc_ok hcall hN hdraw y)
  | .block id x => cBlk_ok (cc_ok hcall hN hdraw x)
  | .loop x => cLoop_ok (cc_ok hcall hN hdraw x)
  | .exit id => fun _ _ t m h ρ a w _ _ s mr rh _ => wpIn_exit ⟨rfl, ρ, s, mr, Goes.refl rh⟩
  | .ret => fun _ _ t m h ρ a w _ _ s mr rh _ => wpIn_ret ⟨rfl, ρ, s, mr, Goes.refl rh⟩
  | .rangeFunc g ps assign body => by
    unfold cc
    cases hg : opd g with
    | none => exact fun _ _ _ _ _ _ _ _ _ hne => absurd rfl hne
    | some gf => exact cRange_ok hcall hN hg
  | .scope _ => fun _ _ _ _ _ _ _ _ _ hne => absurd rfl hne
  | .goto _ => fun _ _ _ _ _ _ _ _ _ hne => absurd rfl hne
  | .refuse _ => fun _ _ _ _ _ _ _ _ _ hne => absurd rfl hne
end
end Go.Ev
