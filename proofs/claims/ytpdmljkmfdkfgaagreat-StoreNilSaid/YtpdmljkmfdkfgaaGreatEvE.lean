/-
  What is proved: the rest of the operations that neither write nor read memory (parts, places, slices, equality). No condition.
-/
import Derived.Test.YtpdmljkmfdkfgaaGreatEvD
import Derived.Laws.StructEq
import Derived.ChangeKeysEq
namespace Go.Ev

section
variable {P : Program} {ρ : Rho} {t : TT} {a : Act}

theorem tySize_info {t : TypeId} {n : Nat} (h : tySize P t = some n) : ∃ i, P.info? t = some i ∧ i.size = n := by
  unfold tySize at h
  cases hi : P.info? t with
  | none => rw [hi] at h; cases h
  | some i => rw [hi] at h; injection h with h; exact ⟨i, rfl, h⟩
theorem tyBytes_info {t : TypeId} {n : Nat} (h : tyBytes P t = some n) : ∃ i, P.info? t = some i ∧ i.bytes = n := by
  unfold tyBytes at h
  cases hi : P.info? t with
  | none => rw [hi] at h; cases h
  | some i => rw [hi] at h; injection h with h; exact ⟨i, rfl, h⟩
theorem run_sz {t : TypeId} {n : Nat} (h : tySize P t = some n) (w : World) : (sizeOf t).run P w = .ok n w := by
  obtain ⟨i, h1, h2⟩ := tySize_info h
  simp [sizeOf, typeInfo, h1, h2]
theorem run_under {t : TypeId} {d : TypeDesc} (h : P.underlying t = some d) (w : World) : (underlying t).run P w = .ok d w := by
  simp [underlying, h]
theorem tyAgg_run {t : TypeId} {g : Bool} (h : tyAgg P t = some g) (w : World) : (isAgg t).run P w = .ok g w := by
  unfold tyAgg at h
  unfold isAgg
  cases hu : P.underlying t with
  | none => rw [hu] at h; cases h
  | some d =>
    rw [hu] at h
    simp only [Sem.run_bind, run_under hu, Result.andThen_ok]
    cases d <;> (injection h with h; subst h; rfl)
theorem tyZeroV_run {t : TypeId} {v : AV} (h : tyZeroV P t = .yes v) : ∃ z : Value, (∀ w, (zeroValue t).run P w = .ok z w) ∧ ∀ ρ, VRel ρ v z := by
  unfold tyZeroV at h
  cases hi : P.info? t with
  | none => rw [hi] at h; cases h
  | some i =>
    rw [hi] at h
    simp only [] at h
    cases hz : i.zero with
    | none => rw [hz] at h; cases h
    | some z =>
      rw [hz] at h
      exact ⟨z, fun w => by simp [zeroValue, typeInfo, hi, hz], fun ρ => cv_rel ρ z v h⟩
theorem tyZero_run {t : TypeId} {zs : List AV} (h : tyZero P t = .yes zs) : ∃ (z : Value) (l : List Value), (∀ w, (zeroValue t).run P w = .ok z w) ∧ z.cells = l.toArray ∧ ∀ ρ, VRelL ρ zs l := by
  unfold tyZero at h
  cases hv : tyZeroV P t with
  | no => rw [hv] at h; cases h
  | yes v =>
    rw [hv] at h
    injection h with h
    subst h
    obtain ⟨z, h1, h2⟩ := tyZeroV_run hv
    obtain ⟨l, e, _⟩ := (h2 (fun _ => none)).cells
    refine ⟨z, l, h1, e, fun ρ => ?_⟩
    obtain ⟨l', e', r'⟩ := (h2 ρ).cells
    rw [e] at e'
    have : l = l' := by injection e'
    rw [this]
    exact r'

/-- A value out of so many cells. -/
theorem mkV_rel {g : Bool} {vs : List AV} {v : AV} {l : List Value} (h : mkV g vs = .yes v) (r : VRelL ρ vs l) :
    ∃ x, VRel ρ v x ∧ (g = true → x = .agg l.toArray) ∧ (g = false → l = [x]) := by
  cases g with
  | true => injection h with h; subst h; exact ⟨_, ⟨l, rfl, r⟩, fun _ => rfl, fun h => by cases h⟩
  | false =>
    simp only [mkV] at h
    split at h
    · injection h with h
      subst h
      obtain ⟨x, xs, rfl, h2, h3⟩ := r
      rw [h3]
      exact ⟨x, h2, (fun h => by cases h), fun _ => rfl⟩
    · cases h

theorem extract_toArray (l : List Value) (o n : Nat) : l.toArray.extract o (o + n) = ((l.drop o).take n).toArray := by
  simp

theorem part_rel {ty : TypeId} {n o : Nat} {g : Bool} {cs vs : List AV} {l : List Value} {v : AV} (hn : tySize P ty = some n) (hg : tyAgg P ty = some g) (ht : takeL n (dropL o cs) = .yes vs)
    (hv : mkV g vs = .yes v) (r : VRelL ρ cs l) : ∃ x, (∀ w, (part ty l.toArray o).run P w = .ok x w) ∧ VRel ρ v x := by
  rw [dropL_eq] at ht
  obtain ⟨rfl, hl⟩ := takeL_yes _ _ _ ht
  have r' : VRelL ρ ((cs.drop o).take n) ((l.drop o).take n) := (r.drop o).take n
  obtain ⟨x, hx, h1, h2⟩ := mkV_rel hv r'
  refine ⟨x, fun w => ?_, hx⟩
  unfold part
  simp only [Sem.run_bind, tyAgg_run hg, Result.andThen_ok]
  cases g with
  | true =>
    simp only [if_true, Sem.run_bind, run_sz hn, Result.andThen_ok, extract_toArray]
    rw [h1 rfl]
    rfl
  | false =>
    have h2 := h2 rfl
    have : l[o]? = some x := by
      have := congrArg (fun m : List Value => m[0]?) h2
      simp [List.getElem?_take] at this
      exact this.2
    simp [this]

theorem nilChk_ok {o : Oper} {x : Operand} {g : Get} (ho : o.op = .nilCheck x) (hx : opd x = some g) : PureOk P o (nilChk g) := by
  intro ρ t a w v r h
  have rx := opd_rel hx r
  unfold nilChk at h
  split at h
  · rename_i b off e
    injection h with h
    subst h
    rw [e] at rx
    obtain ⟨ad, ex, hp⟩ := rx
    exact ⟨_, by simp only [execOp, ho, ex]; rfl, ad, rfl, hp⟩
  · rename_i f b c e
    injection h with h
    subst h
    rw [e] at rx
    obtain ⟨l, m, ex, h1, h2⟩ := rx
    exact ⟨_, by simp only [execOp, ho, ex]; rfl, l, m, rfl, h1, h2⟩
  · rename_i l e
    injection h with h
    subst h
    rw [e] at rx
    obtain ⟨L, hL, ex⟩ := rx
    exact ⟨_, by simp only [execOp, ho, ex]; rfl, L, hL, rfl⟩
  · cases h

theorem extr_ok {o : Oper} {x : Operand} {i : Nat} {g : Get} (ho : o.op = .extract x i) (hx : opd x = some g) : PureOk P o (extrA g i) := by
  intro ρ t a w v r h
  have rx := opd_rel hx r
  unfold extrA at h
  split at h
  · rename_i vs e
    rw [e] at rx
    obtain ⟨l, ex, hl⟩ := rx
    rw [nthL_eq] at h
    split at h
    · rename_i u hu
      injection h with h
      subst h
      obtain ⟨y, h1, h2⟩ := hl.get hu
      exact ⟨y, by simp [execOp, ho, ex, Instr.extract, h1], h2⟩
    · cases h
  · cases h

theorem iface_ok {o : Oper} {ty : TypeId} {x : Operand} {g : Get} {d : TypeDesc} (ho : o.op = .makeInterface ty x) (hd : P.underlying ty = some d) (hn : ∀ ms, d ≠ .interface ms) (hx : opd x = some g) :
    PureOk P o (ifaceA ty g) := by
  intro ρ t a w v r h
  have rx := opd_rel hx r
  injection h with h
  subst h
  refine ⟨.iface ty (a.eval x), ?_, _, rfl, rx⟩
  simp only [execOp, ho, Instr.makeInterface, Sem.run_bind, run_under hd, Result.andThen_ok]
  cases d <;> first | rfl | exact absurd rfl (hn _)

theorem func_ok {o : Oper} {fn : Fn} {f c : Array Operand} {gf gc : List Get} (ho : o.op = .makeFunc fn f c) (hf : opds f.toList = some gf) (hc : opds c.toList = some gc) :
    PureOk P o fun t => .yes (.fn fn (gets t gf) (gets t gc)) := by
  intro ρ t a w v r h
  injection h with h
  subst h
  refine ⟨.func fn (f.map a.eval) (c.map a.eval), by simp [execOp, ho, Instr.makeFunc], f.toList.map a.eval, c.toList.map a.eval, ?_, opds_rel hf r, opds_rel hc r⟩
  congr 1 <;> (apply Array.ext'; simp)

theorem field_ok {o : Oper} {ty : TypeId} {x : Operand} {i n : Nat} {b : Bool} {g : Get} {fields : Array Field} {f : Field} (ho : o.op = .field ty x i) (hu : P.underlying ty = some (.struct fields))
    (hf : fields.toList[i]? = some f) (hn : tySize P f.type = some n) (hg : tyAgg P f.type = some b) (hx : opd x = some g) : PureOk P o (fieldA f.offset n b g) := by
  intro ρ t a w v r h
  have rx := opd_rel hx r
  unfold fieldA at h
  split at h
  · rename_i cs e
    rw [e] at rx
    obtain ⟨l, ex, hl⟩ := rx
    split at h
    · rename_i vs hvs
      obtain ⟨y, h1, h2⟩ := part_rel hn hg hvs h hl
      have hf' : fields[i]? = some f := by rw [← Array.getElem?_toList]; exact hf
      exact ⟨y, by simp [execOp, ho, ex, Instr.field, run_under hu, hf', asAgg, h1], h2⟩
    · cases h
  · cases h

theorem mkPt_yes {b : Blk} {off : Nat} {v : AV} (h : mkPt b off = .yes v) : v = .at (.ptr b off) := by
  unfold mkPt at h; rw [forceN_eq] at h; injection h with h; exact h.symm
theorem mkSl_yes {b : Blk} {off len cap : Nat} {v : AV} (h : mkSl b off len cap = .yes v) : v = .at (.slice b off len cap) := by
  unfold mkSl at h; rw [forceN_eq, forceN_eq, forceN_eq] at h; injection h with h; exact h.symm
theorem mkOs_yes {i off len z : Nat} {v : AV} (h : mkOs i off len z = .yes v) : v = .at (.oslice i off len z) := by
  unfold mkOs at h; rw [forceN_eq, forceN_eq] at h; injection h with h; exact h.symm

theorem PRel.add {b : Blk} {off n : Nat} {ad : Addr} (h : PRel ρ b off ad) : PRel ρ b (off + n) (ad.add n) := by
  have none_ : ad.spot = none := by
    cases b with
    | n i => obtain ⟨L, _, rfl⟩ := h; rfl
    | o i => rw [h]
  have e : ad.add n = ⟨ad.block, ad.off + n, none⟩ := by
    unfold Addr.add
    split
    · rename_i hn; subst hn; cases ad; simp_all
    · rfl
  rw [e]
  cases b with
  | n i => obtain ⟨L, h1, rfl⟩ := h; exact ⟨L, h1, by show Addr.mk _ _ _ = _; congr 1; show off + L.sh + n = _; omega⟩
  | o i => rw [h]; rfl

theorem fieldAddr_ok {o : Oper} {ty : TypeId} {x : Operand} {i n : Nat} {g : Get} {fields : Array Field} {f : Field} (ho : o.op = .fieldAddr ty x i) (hu : P.underlying ty = some (.struct fields))
    (hf : fields.toList[i]? = some f) (hn : tySize P f.type = some (n + 1)) (hx : opd x = some g) : PureOk P o (fieldAddrA f.offset g) := by
  intro ρ t a w v r h
  have rx := opd_rel hx r
  unfold fieldAddrA at h
  split at h
  · rename_i b off e
    rw [e] at rx
    obtain ⟨ad, ex, hp⟩ := rx
    have := mkPt_yes h
    subst this
    have hf' : fields[i]? = some f := by rw [← Array.getElem?_toList]; exact hf
    exact ⟨_, by simp [execOp, ho, ex, Instr.fieldAt, run_under hu, hf', Instr.sureAddr, fieldPlace, run_sz hn], _, rfl, hp.add⟩
  · cases h

theorem slPlace_rel {v : AV} {b : Blk} {off len : Nat} {x : Value} (h : slPlace v = some (b, off, len)) (r : VRel ρ v x) :
    ∃ ad c, x = .slice (some ad) len c ∧ (0 < len → PRel ρ b off ad) := by
  unfold slPlace at h
  split at h
  · simp only [Option.some.injEq, Prod.mk.injEq] at h
    obtain ⟨rfl, rfl, rfl⟩ := h
    obtain ⟨ad, rfl, hp⟩ := r
    exact ⟨ad, _, rfl, fun _ => hp⟩
  · simp only [Option.some.injEq, Prod.mk.injEq] at h
    obtain ⟨rfl, rfl, rfl⟩ := h
    obtain ⟨L, c, o, hL, _, rfl, hc, _, ho⟩ := r
    refine ⟨_, c, rfl, fun hl => ⟨L, hL, ?_⟩⟩
    rcases ho with ho | ho
    · omega
    · rw [ho]
  · cases h
theorem slLen_rel {v : AV} {n : Nat} {x : Value} (h : slLen v = some n) (r : VRel ρ v x) : ∃ ad c, x = .slice ad n c := by
  unfold slLen at h
  split at h
  · injection h with h; subst h; exact ⟨_, _, r⟩
  · injection h with h; subst h; obtain ⟨ad, rfl, _⟩ := r; exact ⟨_, _, rfl⟩
  · injection h with h; subst h; obtain ⟨L, c, o, hL, _, rfl, _⟩ := r; exact ⟨_, _, rfl⟩
  · cases h
theorem natOf_rel {v : AV} {n : Nat} {x : Value} (h : natOf v = some n) (r : VRel ρ v x) : ∃ k, x = .int k (n : Int) := by
  unfold natOf at h
  split at h
  · injection h with h; subst h; exact ⟨_, r⟩
  · cases h

theorem indexSl_ok {o : Oper} {ty e : TypeId} {x i : Operand} {n : Nat} {gx gi : Get} (ho : o.op = .indexAddr ty x i) (hu : P.underlying ty = some (.slice e)) (hn : tySize P e = some n)
    (hx : opd x = some gx) (hi : opd i = some gi) : PureOk P o (indexSl n gx gi) := by
  intro ρ t a w v r h
  have rx := opd_rel hx r
  have ri := opd_rel hi r
  unfold indexSl at h
  split at h
  · rename_i b off len hs
    split at h
    · rename_i j hj
      cases hb : Nat.blt j len with
      | false => rw [hb] at h; cases h
      | true =>
        rw [hb] at h
        have := mkPt_yes h
        subst this
        have hb := blt_iff.1 hb
        obtain ⟨ad, c, ex, hp⟩ := slPlace_rel hs rx
        obtain ⟨k, ei⟩ := natOf_rel hj ri
        refine ⟨.pointer (some (ad.add (j * n))), ?_, _, rfl, (hp (by omega)).add⟩
        have h0 : (0 : Int) ≤ j ∧ (j : Int) < len := by omega
        simp only [execOp, ho, ex, ei, Instr.indexAt, asIntOf, Sem.run_bind, Sem.run_pure, Result.andThen_ok, run_under hu, Sem.run_ite, if_pos h0, run_sz hn, Int.toNat_natCast]
    · cases h
  · cases h

theorem indexArr_ok {o : Oper} {ty e : TypeId} {x i : Operand} {n len : Nat} {gx gi : Get} (ho : o.op = .indexAddr ty x i) (hu : P.underlying ty = some (.array len e)) (hn : tySize P e = some n)
    (hx : opd x = some gx) (hi : opd i = some gi) : PureOk P o (indexArr n len gx gi) := by
  intro ρ t a w v r h
  have rx := opd_rel hx r
  have ri := opd_rel hi r
  unfold indexArr at h
  split at h
  · rename_i b off hs
    rw [hs] at rx
    split at h
    · rename_i j hj
      cases hb : Nat.blt j len with
      | false => rw [hb] at h; cases h
      | true =>
        rw [hb] at h
        have := mkPt_yes h
        subst this
        have hb := blt_iff.1 hb
        obtain ⟨ad, ex, hp⟩ := rx
        obtain ⟨k, ei⟩ := natOf_rel hj ri
        refine ⟨.pointer (some (ad.add (j * n))), ?_, _, rfl, hp.add⟩
        have h0 : (0 : Int) ≤ j ∧ (j : Int) < len := by omega
        simp only [execOp, ho, ex, ei, Instr.indexAt, Instr.sureAddr, asIntOf, Sem.run_bind, Sem.run_pure, Result.andThen_ok, run_under hu, Sem.run_ite, if_pos h0, run_sz hn, Int.toNat_natCast]
    · cases h
  · cases h

theorem bnd_rel {x : Option AV} {y : Option Value} {d m n : Nat} (h : bnd x d m = some n) (r : OptRel ρ x y) :
    (y = none ∧ n = d) ∨ (∃ k, y = some (.int k (n : Int)) ∧ n ≤ m) := by
  unfold bnd at h
  cases x with
  | none =>
    cases y with
    | none => injection h with h; exact .inl ⟨rfl, h.symm⟩
    | some y => exact r.elim
  | some v =>
    cases y with
    | none => exact r.elim
    | some y =>
      simp only [] at h
      cases hv : natOf v with
      | none => rw [hv] at h; cases h
      | some j =>
        rw [hv] at h
        simp only [] at h
        cases hb : Nat.ble j m with
        | false => rw [hb] at h; cases h
        | true =>
          rw [hb] at h
          injection h with h
          subst h
          obtain ⟨k, rfl⟩ := natOf_rel hv r
          exact .inr ⟨k, rfl, ble_iff.1 hb⟩

theorem bnd_more {x : Option AV} {d m c n : Nat} (h : bnd x d m = some n) (hm : m ≤ c) : bnd x d c = some n ∧ (d ≤ m → n ≤ m) := by
  unfold bnd at h ⊢
  split at h
  · injection h with h; subst h; exact ⟨rfl, fun h => h⟩
  · split at h
    · rename_i j hj
      cases hb : Nat.ble j m with
      | false => rw [hb] at h; cases h
      | true =>
        rw [hb] at h
        injection h with h
        subst h
        have := ble_iff.1 hb
        simp only [ble_iff.2 (show j ≤ c by omega), cond_true]
        exact ⟨trivial, fun _ => this⟩
    · cases h
theorem run_sb {k : IntKind} {n y : Nat} (code : BoundsCode) (h : n ≤ y) (w : World) : (Instr.sliceBound (.int k (n : Int)) y code).run P w = .ok n w := by
  have h0 : (0 : Int) ≤ n ∧ (n : Int) ≤ y := by omega
  simp [Instr.sliceBound, asIntOf, h0]

/-- The three bounds, worked out. -/
theorem bounds_rel {isS : Bool} {len cap l h m : Nat} {lo hi : Option AV} {lo' hi' mx' : Option Value}
    (rl : OptRel ρ lo lo') (rh : OptRel ρ hi hi')
    (hm : (mx' = none ∧ m = cap) ∨ (∃ k, mx' = some (.int k (m : Int)) ∧ m ≤ cap))
    (hh : bnd hi len m = some h) (hl : bnd lo 0 h = some l) (hmh : mx' ≠ none → hi' ≠ none) (w : World) : (Instr.sliceBounds isS len cap lo' hi' mx').run P w = .ok (l, h, m) w ∧ (l ≤ h ∨ lo' = none ∧ l = 0) := by
  have h2 := bnd_rel hh rh
  have h3 := bnd_rel hl rl
  unfold Instr.sliceBounds
  rcases hm with ⟨rfl, rfl⟩ | ⟨km, rfl, lem⟩
  · rcases h2 with ⟨rfl, rfl⟩ | ⟨kh, rfl, leh⟩ <;> rcases h3 with ⟨rfl, rfl⟩ | ⟨kl, rfl, lel⟩
    · exact ⟨by simp, .inr ⟨rfl, rfl⟩⟩
    · exact ⟨by simp [run_sb _ lel], .inl lel⟩
    · exact ⟨by simp [run_sb _ leh], .inr ⟨rfl, rfl⟩⟩
    · exact ⟨by simp [run_sb _ leh, run_sb _ lel], .inl lel⟩
  · rcases h2 with ⟨rfl, rfl⟩ | ⟨kh, rfl, leh⟩ <;> rcases h3 with ⟨rfl, rfl⟩ | ⟨kl, rfl, lel⟩
    · exact absurd rfl (hmh (by simp))
    · exact absurd rfl (hmh (by simp))
    · exact ⟨by simp [run_sb _ lem, run_sb _ leh], .inr ⟨rfl, rfl⟩⟩
    · exact ⟨by simp [run_sb _ lem, run_sb _ leh, run_sb _ lel], .inl lel⟩

theorem PRel.slice {b : Blk} {off l sz : Nat} {ad : Addr} (h : PRel ρ b off ad) : PRel ρ b (off + l * sz) (ad.add (l * sz)) := h.add

theorem sliceOf_rel {sz : Nat} {x : AV} {lo hi mx : Option AV} {v : AV} {x' : Value} {lo' hi' mx' : Option Value} {ty e : TypeId} (hu : P.underlying ty = some (.slice e)) (hn : tySize P e = some sz)
    (h : sliceOf sz x lo hi mx = .yes v) (rx : VRel ρ x x') (rl : OptRel ρ lo lo') (rh : OptRel ρ hi hi') (rm : OptRel ρ mx mx') (hmh : mx' ≠ none → hi' ≠ none) (w : World) :
    ∃ y, (Instr.slice ty x' lo' hi' mx').run P w = .ok y w ∧ VRel ρ v y := by
  unfold sliceOf at h
  split at h
  · -- nil
    have rx : x' = .slice none 0 0 := rx
    subst rx
    split at h
    · rename_i m hh l hm hhi hlo
      injection h with h
      subst h
      have hm' := bnd_rel hm rm
      have e1 : m = 0 := by rcases hm' with ⟨_, rfl⟩ | ⟨_, _, h⟩ <;> omega
      subst e1
      have e2 : hh = 0 := by rcases bnd_rel hhi rh with ⟨_, rfl⟩ | ⟨_, _, h⟩ <;> omega
      subst e2
      obtain ⟨hb, _⟩ := bounds_rel (P := P) (isS := true) (cap := 0) rl rh (by rcases hm' with h | h; exact .inl h; exact .inr h) hhi hlo hmh w
      have e3 : l = 0 := by rcases bnd_rel hlo rl with ⟨_, rfl⟩ | ⟨_, _, h⟩ <;> omega
      subst e3
      refine ⟨.slice none 0 0, ?_, rfl⟩
      simp [Instr.slice, run_under hu, hb, run_sz hn]
    · cases h
  · -- a slice whose capacity is known
    rename_i b off len cap
    obtain ⟨ad, rfl, hp⟩ := rx
    split at h
    · rename_i m hm
      split at h
      · rename_i hh hhi
        split at h
        · rename_i l hlo
          obtain ⟨hb, hl⟩ := bounds_rel (P := P) (isS := true) rl rh (bnd_rel hm rm) hhi hlo hmh w
          cases hml : Nat.beq m l with
          | true =>
            rw [hml] at h
            have := mkSl_yes h
            subst this
            have hml := beq_iff.1 hml
            subst hml
            exact ⟨.slice (some ad) (hh - m) (m - m), by simp [Instr.slice, run_under hu, hb, run_sz hn], _, rfl, hp⟩
          | false =>
            rw [hml] at h
            have := mkSl_yes h
            subst this
            have hne : ¬ m = l := fun e => by rw [beq_iff.2 e] at hml; cases hml
            exact ⟨.slice (some (ad.add (l * sz))) (hh - l) (m - l), by simp [Instr.slice, run_under hu, hb, run_sz hn, hne], _, rfl, hp.add⟩
        · cases h
      · cases h
    · cases h
  · -- a slice up to its block's end
    rename_i i off len z
    obtain ⟨L, c, o, hL, hz, rfl, hc, hfull, ho⟩ := rx
    cases hzs : Nat.beq z sz with
    | false => rw [hzs] at h; cases h
    | true =>
      rw [hzs] at h
      have hzs := beq_iff.1 hzs
      subst hzs
      simp only [Bool.not_true, cond_false] at h
      split at h
      · -- up to the end
        split at h
        · rename_i hh hhi
          split at h
          · rename_i l hlo
            have := mkOs_yes h
            subst this
            have hmx : mx' = none := by cases mx' with | none => rfl | some y => exact rm.elim
            subst hmx
            have hhi' : bnd hi len c = some hh ∧ hh ≤ len := ⟨(bnd_more hhi hc).1, (bnd_more hhi hc).2 (Nat.le_refl _)⟩
            obtain ⟨hb, hl⟩ := bounds_rel (P := P) (isS := true) (len := len) (cap := c) (m := c) rl rh (.inl ⟨rfl, rfl⟩) hhi'.1 hlo hmh w
            have hlh : l ≤ hh := by rcases bnd_rel hlo rl with ⟨_, rfl⟩ | ⟨_, _, h⟩ <;> omega
            refine ⟨.slice (some (if c = l then ⟨L.blk, o, none⟩ else (⟨L.blk, o, none⟩ : Addr).add (l * z))) (hh - l) (c - l), ?_, ?_⟩
            · simp only [Instr.slice, Sem.run_bind, run_under hu, Result.andThen_ok, hb, run_sz hn, Sem.run_pure, Option.map_some]
              split <;> rfl
            · have hcl : (c - l) * L.esz + l * z = c * L.esz := by rw [hz, ← Nat.add_mul]; congr 1; omega
              by_cases hcl' : c = l
              · rw [if_pos hcl']
                exact ⟨L, c - l, o, hL, hz, rfl, by omega, by omega, .inl (by omega)⟩
              · rw [if_neg hcl']
                rcases ho with ho | ho
                · omega
                · refine ⟨L, c - l, o + l * z, hL, hz, ?_, by omega, by omega, .inr (by omega)⟩
                  have : (⟨L.blk, o, none⟩ : Addr).add (l * z) = ⟨L.blk, o + l * z, none⟩ := by unfold Addr.add; split <;> simp_all
                  rw [this]
          · cases h
        · cases h
      · -- up to a bound
        split at h
        · rename_i m hm
          split at h
          · rename_i hh hhi
            split at h
            · rename_i l hlo
              cases hml : Nat.beq m l with
              | true => rw [hml] at h; cases h
              | false =>
                rw [hml] at h
                have := mkSl_yes h
                subst this
                have hne : ¬ m = l := fun e => by rw [beq_iff.2 e] at hml; cases hml
                have hm' := bnd_rel hm rm
                have hmx : ∃ k, mx' = some (.int k (m : Int)) ∧ m ≤ c := by
                  rcases hm' with ⟨e, _⟩ | ⟨k, e, h1⟩
                  · subst e; exact rm.elim
                  · exact ⟨k, e, by omega⟩
                have hmlen : m ≤ len := by rcases hm' with ⟨_, e⟩ | ⟨_, _, e⟩ <;> omega
                obtain ⟨hb, hl⟩ := bounds_rel (P := P) (isS := true) (len := len) (cap := c) rl rh (.inr hmx) hhi hlo hmh w
                rcases ho with ho | ho
                · have hhm : hh ≤ m := by
                    rcases bnd_rel hhi rh with ⟨e, _⟩ | ⟨_, _, e⟩
                    · obtain ⟨k, e2, _⟩ := hmx
                      exact absurd e (hmh (by rw [e2]; simp))
                    · exact e
                  have hlh : l ≤ hh := by rcases bnd_rel hlo rl with ⟨_, rfl⟩ | ⟨_, _, h⟩ <;> omega
                  omega
                · subst ho
                  have hp : PRel ρ (.n i) off ⟨L.blk, off + L.sh, none⟩ := ⟨L, hL, rfl⟩
                  exact ⟨.slice (some ((⟨L.blk, off + L.sh, none⟩ : Addr).add (l * z))) (hh - l) (m - l), by simp [Instr.slice, run_under hu, hb, run_sz hn, hne], _, rfl, hp.add⟩
            · cases h
          · cases h
        · cases h
  · cases h

theorem sliceSl_ok {o : Oper} {ty e : TypeId} {x : Operand} {lo hi mx : Option Operand} {n : Nat} {gx : Get} {gl gh gm : Option Get} (ho : o.op = .slice ty x lo hi mx) (hu : P.underlying ty = some (.slice e))
    (hn : tySize P e = some n) (hx : opd x = some gx) (hl : opt lo = some gl) (hh : opt hi = some gh) (hm : opt mx = some gm) (hmh : (gm.isSome && gh.isNone) = false) : PureOk P o (sliceSl n gx gl gh gm) := by
  intro ρ t a w v r h
  have hmh' : mx.map a.eval ≠ none → hi.map a.eval ≠ none := by
    cases mx with
    | none => intro h; exact absurd rfl h
    | some m =>
      cases hi with
      | some h => intro _; simp
      | none =>
        simp only [opt] at hm hh
        cases hm' : opd m with
        | none => rw [hm'] at hm; cases hm
        | some g => rw [hm'] at hm; injection hm with hm; injection hh with hh; subst hm hh; simp at hmh
  obtain ⟨y, h1, h2⟩ := sliceOf_rel hu hn h (opd_rel hx r) (opt_rel hl r) (opt_rel hh r) (opt_rel hm r) hmh' w
  refine ⟨y, ?_, h2⟩
  simp only [execOp, ho, Instr.sliceAt, Sem.run_bind, run_under hu, Result.andThen_ok, h1, Sem.run_pure]

theorem sliceArr_ok {o : Oper} {ty e : TypeId} {x : Operand} {lo hi mx : Option Operand} {n len : Nat} {gx : Get} {gl gh gm : Option Get} (ho : o.op = .slice ty x lo hi mx) (hu : P.underlying ty = some (.array len e))
    (hn : tySize P e = some n) (hx : opd x = some gx) (hl : opt lo = some gl) (hh : opt hi = some gh) (hm : opt mx = some gm) (hmh : (gm.isSome && gh.isNone) = false) : PureOk P o (sliceArr n len gx gl gh gm) := by
  intro ρ t a w v r h
  have hmh' : mx.map a.eval ≠ none → hi.map a.eval ≠ none := by
    cases mx with
    | none => intro h; exact absurd rfl h
    | some m =>
      cases hi with
      | some h => intro _; simp
      | none =>
        simp only [opt] at hm hh
        cases hm' : opd m with
        | none => rw [hm'] at hm; cases hm
        | some g => rw [hm'] at hm; injection hm with hm; injection hh with hh; subst hm hh; simp at hmh
  have rx := opd_rel hx r
  unfold sliceArr at h
  split at h
  · rename_i b off hb
    rw [hb] at rx
    obtain ⟨ad, ex, hp⟩ := rx
    unfold sliceOf at h
    simp only [] at h
    split at h
    · rename_i m hm2
      split at h
      · rename_i hh2 hhi
        split at h
        · rename_i l hlo
          obtain ⟨hb, hl2⟩ := bounds_rel (P := P) (isS := false) (opt_rel hl r) (opt_rel hh r) (bnd_rel hm2 (opt_rel hm r)) hhi hlo hmh' w
          cases hml : Nat.beq m l with
          | true =>
            rw [hml] at h
            have := mkSl_yes h
            subst this
            have hml := beq_iff.1 hml
            subst hml
            exact ⟨.slice (some ad) (hh2 - m) (m - m), by simp [execOp, ho, ex, Instr.sliceAt, Instr.sureAddr, run_under hu, hb, run_sz hn], _, rfl, hp⟩
          | false =>
            rw [hml] at h
            have := mkSl_yes h
            subst this
            have hne : ¬ m = l := fun e => by rw [beq_iff.2 e] at hml; cases hml
            exact ⟨.slice (some (ad.add (l * n))) (hh2 - l) (m - l), by simp [execOp, ho, ex, Instr.sliceAt, Instr.sureAddr, run_under hu, hb, run_sz hn, hne], _, rfl, hp.add⟩
        · cases h
      · cases h
    · cases h
  · cases h

end
end Go.Ev
