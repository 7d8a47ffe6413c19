/-
  What is proved: the last of the operations that neither write nor read memory (equality as an operation, lengths, parts of texts, the least and the greatest, composite values); what makes an object. No condition.
-/
import Derived.Test.YtpdmljkmfdkfgaaGreatEvG
import Derived.Laws.Tables
import Derived.Laws.StructEq
namespace Go.Ev

section
variable {P : Program} {ρ : Rho} {t : TT} {a : Act}

/-! ### equality as an operation -/
def plainEq : Value → Bool
  | .int _ _ | .float _ _ | .complex _ _ _ | .string _ | .nilIface => false
  | _ => true

theorem eqV_plain {d : Nat} {ty : TypeId} {x y : AV} {b : Bool} {X : Value} {D : TypeDesc} (h : eqV P d ty x y = .yes b) (hx : VRel ρ x X) (hu : P.underlying ty = some D) (hi : ∀ k, D ≠ .int k) (hs : D ≠ .string) : plainEq X = true := by
  cases d with
  | zero => simp [eqV] at h
  | succ d =>
    unfold eqV at h
    rw [hu] at h
    cases D <;> simp only [] at h <;> try (cases h; done)
    case int k => exact absurd rfl (hi k)
    case string => exact absurd rfl hs
    all_goals
      split at h <;> first
        | (cases h; done)
        | (cases hx; rfl)
        | (obtain ⟨ad, rfl, _⟩ := hx; rfl)
        | (obtain ⟨ad, _, rfl⟩ := hx; rfl)
        | (obtain ⟨L, c, o, _, _, rfl, _⟩ := hx; rfl)
        | (obtain ⟨l, m, rfl, _⟩ := hx; rfl)

theorem run_eqGuard_plain {op : BinOp} {ty : TypeId} {x y : Operand} {X Y : Value} (hg : P.eqGuardType P.depth ty = false) (hX : plainEq X = true) (w : World) : (eqGuard op ty x y X Y).run P w = .ok () w := by
  cases X <;> first
    | (cases hX; done)
    | (cases Y <;> first
        | exact run_eqGuard_agg (w := w) op ty x y _ _ hg
        | (cases op <;> simp [eqGuard]))

theorem binOp_eql_plain {ty : TypeId} {X Y : Value} (hX : plainEq X = true) : binOp .eql ty X Y = (do pure (.bool (← Op.equal ty X Y))) := by
  cases X <;> first | (cases hX; done) | (cases Y <;> rfl)
theorem binOp_neq_plain {ty : TypeId} {X Y : Value} (hX : plainEq X = true) : binOp .neq ty X Y = (do pure (.bool (!(← Op.equal ty X Y)))) := by
  cases X <;> first | (cases hX; done) | (cases Y <;> rfl)

theorem eqvA_ok {o : Oper} {ty ty' : TypeId} {x y : Operand} {gx gy : Get} {D : TypeDesc} (neg : Bool) (ho : o.op = .binOp (if neg then .neq else .eql) ty x y ty') (hx : opd x = some gx) (hy : opd y = some gy)
    (hu : P.underlying ty = some D) (hi : ∀ k, D ≠ .int k) (hs : D ≠ .string) (hg : P.eqGuardType P.depth ty = false) : PureOk P o (eqvA P neg ty gx gy) := by
  intro ρ t a w v r h
  have rx := opd_rel hx r
  have ry := opd_rel hy r
  unfold eqvA at h
  split at h
  · rename_i b hb
    have hp := eqV_plain hb rx hu hi hs
    have he : (Op.equal ty (a.eval x) (a.eval y)).run P w = .ok b w := eqV_rel P ρ 40 ty _ _ b _ _ w Op.maxDepth hb rx ry (by simp [Op.maxDepth])
    cases neg with
    | false =>
      simp only [cond_false, okB_eq] at h
      injection h with h; subst h
      refine ⟨.bool b, ?_, rfl⟩
      simp only [Bool.false_eq_true, if_false] at ho
      simp [execOp, ho, run_eqGuard_plain hg hp, binOp_eql_plain hp, he]
    | true =>
      simp only [cond_true, okB_eq] at h
      injection h with h; subst h
      refine ⟨.bool (!b), ?_, rfl⟩
      simp only [if_true] at ho
      simp [execOp, ho, run_eqGuard_plain hg hp, binOp_neq_plain hp, he]
  · cases h

theorem equal_nilnil {ty : TypeId} {ms : Array (String × TypeId)} (hu : P.underlying ty = some (.interface ms)) (w : World) : (Op.equal ty .nilIface .nilIface).run P w = .ok true w := by
  have key : ∀ n, (Op.equalIn (n + 1) ty .nilIface .nilIface).run P w = .ok true w := fun n => by simp only [Op.equalIn, Sem.run_bind, run_under hu, Result.andThen_ok, Sem.run_pure]
  exact key 9999
theorem equal_nilif {ty d : TypeId} {v : Value} {ms : Array (String × TypeId)} (hu : P.underlying ty = some (.interface ms)) (w : World) : (Op.equal ty .nilIface (.iface d v)).run P w = .ok false w := by
  have key : ∀ n, (Op.equalIn (n + 1) ty .nilIface (.iface d v)).run P w = .ok false w := fun n => by simp only [Op.equalIn, Sem.run_bind, run_under hu, Result.andThen_ok, Sem.run_pure]
  exact key 9999
theorem equal_ifnil {ty d : TypeId} {v : Value} {ms : Array (String × TypeId)} (hu : P.underlying ty = some (.interface ms)) (w : World) : (Op.equal ty (.iface d v) .nilIface).run P w = .ok false w := by
  have key : ∀ n, (Op.equalIn (n + 1) ty (.iface d v) .nilIface).run P w = .ok false w := fun n => by simp only [Op.equalIn, Sem.run_bind, run_under hu, Result.andThen_ok, Sem.run_pure]
  exact key 9999
theorem guard_nilnil {op : BinOp} {ty : TypeId} {x y : Operand} (h : (isK x || isK y) = true) (w : World) : (eqGuard op ty x y .nilIface .nilIface).run P w = .ok () w := by
  cases x <;> cases y <;> first | (cases h; done) | (cases op <;> simp [eqGuard])
theorem guard_nilif {op : BinOp} {ty d : TypeId} {v : Value} {x y : Operand} (w : World) : (eqGuard op ty x y .nilIface (.iface d v)).run P w = .ok () w := by cases op <;> simp [eqGuard]
theorem guard_ifnil {op : BinOp} {ty d : TypeId} {v : Value} {x y : Operand} (w : World) : (eqGuard op ty x y (.iface d v) .nilIface).run P w = .ok () w := by cases op <;> simp [eqGuard]

theorem eqNil_fin {o : Oper} {ty ty' : TypeId} {x y : Operand} {X Y : Value} {b : Bool} {ev : Operand → Value} {w : World} (neg : Bool) (ho : o.op = .binOp (if neg then .neq else .eql) ty x y ty') (ex : ev x = X) (ey : ev y = Y)
    (hg : ∀ op, (eqGuard op ty x y X Y).run P w = .ok () w) (he : (Op.equal ty X Y).run P w = .ok b w) (h1 : binOp .eql ty X Y = (do pure (.bool (← Op.equal ty X Y)))) (h2 : binOp .neq ty X Y = (do pure (.bool (!(← Op.equal ty X Y))))) :
    (execOp ev o).run P w = .ok (.value (.bool (if neg then !b else b))) w := by
  cases neg with
  | false => simp only [Bool.false_eq_true, if_false] at ho ⊢; simp only [execOp, ho, ex, ey, Sem.run_bind, hg, Result.andThen_ok, h1, he, Sem.run_pure]
  | true => simp only [if_true] at ho ⊢; simp only [execOp, ho, ex, ey, Sem.run_bind, hg, Result.andThen_ok, h2, he, Sem.run_pure]

theorem eqNil_ok {o : Oper} {ty ty' : TypeId} {x y : Operand} {gx gy : Get} {ms : Array (String × TypeId)} (neg : Bool) (ho : o.op = .binOp (if neg then .neq else .eql) ty x y ty') (hx : opd x = some gx) (hy : opd y = some gy)
    (hu : P.underlying ty = some (.interface ms)) (hk : (isK x || isK y) = true) : PureOk P o (eqNil neg gx gy) := by
  intro ρ t a w v r h
  have rx := opd_rel hx r
  have ry := opd_rel hy r
  unfold eqNil at h
  split at h
  · rename_i e1 e2
    rw [e1] at rx
    rw [e2] at ry
    have ex : a.eval x = .nilIface := rx
    have ey : a.eval y = .nilIface := ry
    refine ⟨_, eqNil_fin neg ho ex ey (fun op => guard_nilnil hk w) (equal_nilnil hu w) rfl rfl, ?_⟩
    cases neg <;> (simp only [okB_eq] at h; injection h with h; subst h; rfl)
  · rename_i e1 e2
    rw [e1] at rx
    rw [e2] at ry
    have ex : a.eval x = .nilIface := rx
    obtain ⟨l, ey, _⟩ := ry
    refine ⟨_, eqNil_fin neg ho ex ey (fun op => guard_nilif w) (equal_nilif hu w) rfl rfl, ?_⟩
    cases neg <;> (simp only [okB_eq] at h; injection h with h; subst h; rfl)
  · rename_i e1 e2
    rw [e1] at rx
    rw [e2] at ry
    have ey : a.eval y = .nilIface := ry
    obtain ⟨l, ex, _⟩ := rx
    refine ⟨_, eqNil_fin neg ho ex ey (fun op => guard_ifnil w) (equal_ifnil hu w) rfl rfl, ?_⟩
    cases neg <;> (simp only [okB_eq] at h; injection h with h; subst h; rfl)
  · cases h

/-! ### the built-in functions: how they are come to -/
theorem exec_builtin {o : Oper} {c : Call} {b : Builtin} (ho : o.op = .call c) (hc : c.callee = .builtin b) (ev : Operand → Value) :
    ∃ consts, execOp ev o = builtin b c.argTypes o.type consts (c.args.map ev) := ⟨_, by simp only [execOp, ho, resolve, hc]; rfl⟩

theorem opds_one {l : List Operand} {g : Get} (h : opds l = some [g]) : ∃ x, l = [x] ∧ opd x = some g := by
  cases l with
  | nil => cases h
  | cons x l =>
    simp only [opds] at h
    cases hx : opd x with
    | none => rw [hx] at h; cases h
    | some gx =>
      rw [hx] at h
      simp only [] at h
      cases hl : opds l with
      | none => rw [hl] at h; cases h
      | some gs =>
        rw [hl] at h
        injection h with h
        injection h with h1 h2
        subst h1 h2
        cases l with
        | nil => exact ⟨x, rfl, hx⟩
        | cons y l =>
          simp only [opds] at hl
          cases hy : opd y with
          | none => rw [hy] at hl; cases hl
          | some gy =>
            rw [hy] at hl
            simp only [] at hl
            cases hl' : opds l with
            | none => rw [hl'] at hl; cases hl
            | some gs => rw [hl'] at hl; cases hl

theorem opds_cons {l : List Operand} {g : Get} {gs : List Get} (h : opds l = some (g :: gs)) : ∃ x xs, l = x :: xs ∧ opd x = some g ∧ opds xs = some gs := by
  cases l with
  | nil => cases h
  | cons x l =>
    simp only [opds] at h
    cases hx : opd x with
    | none => rw [hx] at h; cases h
    | some gx =>
      rw [hx] at h
      simp only [] at h
      cases hl : opds l with
      | none => rw [hl] at h; cases h
      | some gs =>
        rw [hl] at h
        injection h with h
        injection h with h1 h2
        subst h1 h2
        exact ⟨x, l, rfl, hx, hl⟩
theorem opds_nil {l : List Operand} (h : opds l = some []) : l = [] := by
  cases l with
  | nil => rfl
  | cons x l =>
    simp only [opds] at h
    cases hx : opd x with
    | none => rw [hx] at h; cases h
    | some gx =>
      rw [hx] at h
      simp only [] at h
      cases hl : opds l with
      | none => rw [hl] at h; cases h
      | some gs => rw [hl] at h; cases h
theorem opds_two {l : List Operand} {g g' : Get} (h : opds l = some [g, g']) : ∃ x y, l = [x, y] ∧ opd x = some g ∧ opd y = some g' := by
  obtain ⟨x, xs, rfl, hx, hs⟩ := opds_cons h
  obtain ⟨y, rfl, hy⟩ := opds_one hs
  exact ⟨x, y, rfl, hx, hy⟩

theorem arr_of_toList {α : Type} {x : Array α} {l : List α} (h : x.toList = l) : x = l.toArray := by rw [← h, Array.toArray_toList]

theorem okN_yes {n : Nat} {v : AV} (h : okN n = .yes v) : v = .int .i64 (n : Int) := by
  unfold okN at h; rw [forceN_eq] at h; injection h with h; exact h.symm

theorem lenStr_ok {o : Oper} {c : Call} {ty : TypeId} {ts : List TypeId} {g : Get} (ho : o.op = .call c) (hc : c.callee = .builtin .len) (ht : c.argTypes.toList = ty :: ts) (hx : opds c.args.toList = some [g])
    (hu : P.underlying ty = some .string) : PureOk P o (lenStr g) := by
  intro ρ t a w v r h
  obtain ⟨x, hl, hx⟩ := opds_one hx
  have rx := opd_rel hx r
  obtain ⟨cs, he⟩ := exec_builtin ho hc a.eval
  unfold lenStr at h
  split at h
  · rename_i s hs
    rw [hs] at rx
    obtain ⟨b, ex, hb⟩ := rx
    have := okN_yes h
    subst this
    refine ⟨.int .i64 (b.size : Int), ?_, by rw [strs_eq hb]; rfl⟩
    rw [he, arr_of_toList ht, arr_of_toList hl]
    simp [builtin, Builtin.len_, ex, run_under hu, goInt]
  · cases h
theorem lenSl_ok {o : Oper} {c : Call} {ty e : TypeId} {ts : List TypeId} {g : Get} (ho : o.op = .call c) (hc : c.callee = .builtin .len) (ht : c.argTypes.toList = ty :: ts) (hx : opds c.args.toList = some [g])
    (hu : P.underlying ty = some (.slice e)) : PureOk P o (lenSl g) := by
  intro ρ t a w v r h
  obtain ⟨x, hl, hx⟩ := opds_one hx
  have rx := opd_rel hx r
  obtain ⟨cs, he⟩ := exec_builtin ho hc a.eval
  unfold lenSl at h
  split at h
  · rename_i n hn
    obtain ⟨ad, cp, ex⟩ := slLen_rel hn rx
    injection h with h
    subst h
    refine ⟨.int .i64 (n : Int), ?_, rfl⟩
    rw [he, arr_of_toList ht, arr_of_toList hl]
    simp [builtin, Builtin.len_, ex, run_under hu, goInt]
  · cases h
theorem lenArr_ok {o : Oper} {c : Call} {ty e : TypeId} {ts : List TypeId} {g : Get} {n : Nat} (ho : o.op = .call c) (hc : c.callee = .builtin .len) (ht : c.argTypes.toList = ty :: ts) (hx : opds c.args.toList = some [g])
    (hu : P.underlying ty = some (.array n e)) : PureOk P o (fun _ => .yes (.int .i64 (.ofNat n))) := by
  intro ρ t a w v r h
  obtain ⟨x, hl, hx⟩ := opds_one hx
  obtain ⟨cs, he⟩ := exec_builtin ho hc a.eval
  injection h with h
  subst h
  refine ⟨.int .i64 (n : Int), ?_, rfl⟩
  rw [he, arr_of_toList ht, arr_of_toList hl]
  simp [builtin, Builtin.len_, run_under hu, goInt]
theorem capSl_ok {o : Oper} {c : Call} {ty e : TypeId} {ts : List TypeId} {g : Get} (ho : o.op = .call c) (hc : c.callee = .builtin .cap) (ht : c.argTypes.toList = ty :: ts) (hx : opds c.args.toList = some [g])
    (hu : P.underlying ty = some (.slice e)) : PureOk P o (capSl g) := by
  intro ρ t a w v r h
  obtain ⟨x, hl, hx⟩ := opds_one hx
  have rx := opd_rel hx r
  obtain ⟨cs, he⟩ := exec_builtin ho hc a.eval
  unfold capSl at h
  split at h
  · rename_i hs
    rw [hs] at rx
    have ex : a.eval x = .slice none 0 0 := rx
    injection h with h; subst h
    refine ⟨.int .i64 0, ?_, rfl⟩
    rw [he, arr_of_toList ht, arr_of_toList hl]
    simp [builtin, Builtin.cap_, ex, run_under hu, goInt]
  · rename_i b off len n hs
    rw [hs] at rx
    obtain ⟨ad, ex, _⟩ := rx
    injection h with h; subst h
    refine ⟨.int .i64 (n : Int), ?_, rfl⟩
    rw [he, arr_of_toList ht, arr_of_toList hl]
    simp [builtin, Builtin.cap_, ex, run_under hu, goInt]
  · cases h

theorem fold2_rel {f : AV → AV → OV} {F : Value → Value → Sem Value} (hf : ∀ ρ x y v X Y, f x y = .yes v → VRel ρ x X → VRel ρ y Y → ∃ z, (∀ (P : Program) (w : World), (F X Y).run P w = .ok z w) ∧ VRel ρ v z) :
    ∀ (l : List AV) (x v : AV) (X : Value) (L : List Value), fold2 f x l = .yes v → VRel ρ x X → VRelL ρ l L → ∃ z, (∀ (P : Program) (w : World), (L.foldlM F X).run P w = .ok z w) ∧ VRel ρ v z
  | [], x, v, X, L, h, hx, hl => by
    simp only [fold2] at h
    injection h with h; subst h
    rw [hl]
    exact ⟨X, fun P w => by simp, hx⟩
  | y :: l, x, v, X, L, h, hx, hl => by
    simp only [fold2] at h
    obtain ⟨Y, M, rfl, hy, hm⟩ := hl
    split at h
    · rename_i z hz
      obtain ⟨Z, h1, h2⟩ := hf ρ x y z X Y hz hx hy
      obtain ⟨u, h3, h4⟩ := fold2_rel hf l z v Z M h h2 hm
      exact ⟨u, fun P w => by simp [List.foldlM_cons, h1, h3], h4⟩
    · cases h

theorem max_ok {o : Oper} {c : Call} {g : Get} {gs : List Get} (ho : o.op = .call c) (hc : c.callee = .builtin .max) (hx : opds c.args.toList = some (g :: gs)) : PureOk P o (fun t => fold2 max2 (g t) (gets t gs)) := by
  intro ρ t a w v r h
  obtain ⟨x, xs, hl, hx, hs⟩ := opds_cons hx
  obtain ⟨cs, he⟩ := exec_builtin ho hc a.eval
  obtain ⟨z, h1, h2⟩ := fold2_rel (F := Builtin.max2) (fun ρ x y v X Y h hx hy => by
    unfold max2 at h
    split at h
    · rename_i k m k' n
      injection h with h; subst h
      have ex : X = .int k m := hx
      have ey : Y = .int k' n := hy
      subst ex ey
      refine ⟨.int k (if m < n then n else m), fun P w => by simp [Builtin.max2], ?_⟩
      rw [ltI_eq]
      show (_ : Value) = _
      split <;> rename_i hlt <;> simp [hlt]
    · cases h) _ _ _ _ _ h (opd_rel hx r) (opds_rel hs r)
  refine ⟨z, ?_, h2⟩
  rw [he, arr_of_toList hl]
  simp [builtin, Builtin.max_, h1]
theorem min_ok {o : Oper} {c : Call} {g : Get} {gs : List Get} (ho : o.op = .call c) (hc : c.callee = .builtin .min) (hx : opds c.args.toList = some (g :: gs)) : PureOk P o (fun t => fold2 min2 (g t) (gets t gs)) := by
  intro ρ t a w v r h
  obtain ⟨x, xs, hl, hx, hs⟩ := opds_cons hx
  obtain ⟨cs, he⟩ := exec_builtin ho hc a.eval
  obtain ⟨z, h1, h2⟩ := fold2_rel (F := Builtin.min2) (fun ρ x y v X Y h hx hy => by
    unfold min2 at h
    split at h
    · rename_i k m k' n
      injection h with h; subst h
      have ex : X = .int k m := hx
      have ey : Y = .int k' n := hy
      subst ex ey
      refine ⟨.int k (if n < m then n else m), fun P w => by simp [Builtin.min2], ?_⟩
      rw [ltI_eq]
      show (_ : Value) = _
      split <;> rename_i hlt <;> simp [hlt]
    · cases h) _ _ _ _ _ h (opd_rel hx r) (opds_rel hs r)
  refine ⟨z, ?_, h2⟩
  rw [he, arr_of_toList hl]
  simp [builtin, Builtin.min_, h1]

/-! ### texts, arrays -/
theorem nthS_eq : ∀ (s : List Nat) (i : Nat), nthS s i = s[i]?
  | [], _ => by simp [nthS]
  | _ :: _, 0 => rfl
  | _ :: s, i + 1 => by simp [nthS, nthS_eq s i]

theorem indexStr_ok {o : Oper} {ty : TypeId} {x i : Operand} {gx gi : Get} (ho : o.op = .index ty x i) (hu : P.underlying ty = some .string) (hx : opd x = some gx) (hi : opd i = some gi) : PureOk P o (indexStr gx gi) := by
  intro ρ t a w v r h
  have rx := opd_rel hx r
  have ri := opd_rel hi r
  unfold indexStr at h
  split at h
  · rename_i s hs
    rw [hs] at rx
    obtain ⟨b, ex, hb⟩ := rx
    split at h
    · rename_i j hj
      obtain ⟨k, ei⟩ := natOf_rel hj ri
      split at h
      · rename_i n hn
        injection h with h; subst h
        rw [nthS_eq, ← hb] at hn
        simp only [List.getElem?_map, Option.map_eq_some_iff] at hn
        obtain ⟨u, hu1, hu2⟩ := hn
        have hlt : j < b.size := (List.getElem?_eq_some_iff.1 hu1).1
        have hbu : b[j]? = some u := by
          rw [getElem?_pos b j hlt]
          congr 1
          have : b.data[j] = u := by simpa using (List.getElem?_eq_some_iff.1 hu1).2
          exact this
        refine ⟨.int .u8 (u.toNat : Int), ?_, by rw [← hu2]; rfl⟩
        simp [execOp, ho, ex, ei, Instr.index, asIntOf, run_under hu, hbu]
      · cases h
    · cases h
  · cases h

theorem indexAgg_ok {o : Oper} {ty e : TypeId} {x i : Operand} {n len : Nat} {b : Bool} {gx gi : Get} (ho : o.op = .index ty x i) (hu : P.underlying ty = some (.array len e)) (hn : tySize P e = some n) (hg : tyAgg P e = some b)
    (hx : opd x = some gx) (hi : opd i = some gi) : PureOk P o (indexAgg n len b gx gi) := by
  intro ρ t a w v r h
  have rx := opd_rel hx r
  have ri := opd_rel hi r
  unfold indexAgg at h
  split at h
  · rename_i cs hcs
    rw [hcs] at rx
    obtain ⟨l, ex, hl⟩ := rx
    split at h
    · rename_i j hj
      obtain ⟨k, ei⟩ := natOf_rel hj ri
      cases hlt : Nat.blt j len with
      | false => rw [hlt] at h; cases h
      | true =>
        rw [hlt] at h
        simp only [cond_true] at h
        have hlt := blt_iff.1 hlt
        split at h
        · rename_i vs hvs
          obtain ⟨y, h1, h2⟩ := part_rel hn hg hvs h hl
          refine ⟨y, ?_, h2⟩
          have h0 : (0 : Int) ≤ j ∧ (j : Int) < len := by omega
          simp only [execOp, ho, ex, ei, Instr.index, asIntOf, Sem.run_bind, Sem.run_pure, Result.andThen_ok, run_under hu, Sem.run_ite, if_pos h0, run_sz hn, Int.toNat_natCast, h1]
        · cases h
    · cases h
  · cases h

/-! ### composite values -/
theorem foldl_set (off : Nat) : ∀ (vs : List Value) (k : Nat) (cs : Array Value), ((vs.zipIdx k).foldl (fun (cs : Array Value) (p : Value × Nat) => cs.setIfInBounds (off + p.2) p.1) cs).size = cs.size ∧
    (off + k + vs.length ≤ cs.size → ∀ j, ((vs.zipIdx k).foldl (fun (cs : Array Value) (p : Value × Nat) => cs.setIfInBounds (off + p.2) p.1) cs)[j]? = if off + k ≤ j ∧ j < off + k + vs.length then vs[j - (off + k)]? else cs[j]?)
  | [], k, cs => by refine ⟨rfl, fun _ j => ?_⟩; simp; intro h h'; omega
  | v :: vs, k, cs => by
    simp only [List.zipIdx_cons, List.foldl_cons]
    obtain ⟨h1, h2⟩ := foldl_set off vs (k + 1) (cs.setIfInBounds (off + k) v)
    refine ⟨by rw [h1]; simp, fun hle j => ?_⟩
    simp only [List.length_cons] at hle ⊢
    rw [h2 (by simp; omega) j]
    by_cases hj : off + (k + 1) ≤ j ∧ j < off + (k + 1) + vs.length
    · rw [if_pos hj, if_pos (by omega), show j - (off + k) = (j - (off + (k + 1))) + 1 by omega]; simp
    · rw [if_neg hj]
      by_cases hj2 : j = off + k
      · subst hj2; rw [if_pos (by omega)]; simp [show off + k < cs.size by omega]
      · rw [if_neg (by omega)]; rw [Array.getElem?_setIfInBounds_ne (by omega)]

theorem fill_rel (place : Nat → Option (Nat × Nat)) : ∀ (ps : List (Nat × AV)) (cells cs : List AV) (l : List Value) (qs : List (Nat × Value)), fill place cells ps = .yes cs → VRelL ρ cells l →
    ps.map (·.1) = qs.map (·.1) → VRelL ρ (ps.map (·.2)) (qs.map (·.2)) → ∃ l' : List Value, Instr.fill place l.toArray qs = some l'.toArray ∧ VRelL ρ cs l'
  | [], cells, cs, l, qs, h, hr, h1, _ => by
    simp only [fill] at h
    injection h with h; subst h
    cases qs with
    | nil => exact ⟨l, rfl, hr⟩
    | cons => cases h1
  | (i, v) :: ps, cells, cs, l, qs, h, hr, h1, h2 => by
    cases qs with
    | nil => cases h1
    | cons q qs =>
      obtain ⟨i', x⟩ := q
      simp only [List.map_cons, List.cons.injEq] at h1
      obtain ⟨rfl, h1⟩ := h1
      obtain ⟨x', xs', e, hv, hvs⟩ := h2
      simp only [List.map_cons, List.cons.injEq] at e
      obtain ⟨rfl, rfl⟩ := e
      have hv : VRel ρ v _ := hv
      simp only [fill] at h
      split at h
      · cases h
      · rename_i off size hp
        cases hb : (Nat.beq v.cells.length size && Nat.blt 0 size) with
        | false => rw [hb] at h; cases h
        | true =>
          rw [hb] at h
          simp only [cond_true] at h
          rw [Bool.and_eq_true] at hb
          have hsz := beq_iff.1 hb.1
          have hpos := blt_iff.1 hb.2
          split at h
          · rename_i cells' hput
            obtain ⟨k1, k2, k3⟩ := putL_yes _ _ _ _ hput
            have hne : v.cells ≠ [] := by intro e; rw [e] at hsz; simp at hsz; omega
            have k2 := k2 hne
            obtain ⟨m, hm, hmr⟩ := hv.cells
            have hml := hmr.length
            have hll := hr.length
            obtain ⟨f1, f2⟩ := foldl_set off m 0 l.toArray
            have f2 := f2 (by simp; omega)
            have hr' : VRelL ρ cells' ((m.zipIdx 0).foldl (fun (cs : Array Value) (p : Value × Nat) => cs.setIfInBounds (off + p.2) p.1) l.toArray).toList := by
              refine VRelL.of_get (by rw [Array.length_toList, f1]; simp; omega) fun j u hu => ?_
              rw [k3 j] at hu
              rw [Array.getElem?_toList, f2 j]
              by_cases hj : off ≤ j ∧ j < off + v.cells.length
              · rw [if_pos hj] at hu
                rw [if_pos (by omega)]
                exact hmr.get hu
              · rw [if_neg hj] at hu
                rw [if_neg (by omega), List.getElem?_toArray]
                exact hr.get hu
            obtain ⟨l', e1, e2⟩ := fill_rel place ps cells' cs _ qs h hr' h1 hvs
            refine ⟨l', ?_, e2⟩
            simp only [Instr.fill, hp]
            rw [if_neg (by rw [hm]; simp; omega), hm]
            rw [← e1]
            congr 1
            rw [← Array.foldl_toList, Array.toList_zipIdx, Array.toArray_toList]
          · cases h

theorem fieldPlaces_mapM : ∀ (fs : List Field) (pl : List (Nat × Nat)), fieldPlaces P fs = some pl → fs.mapM (fun f => (P.info? f.type).map fun i => (f.offset, i.size)) = some pl
  | [], pl, h => by simp only [fieldPlaces] at h; injection h with h; subst h; rfl
  | f :: fs, pl, h => by
    simp only [fieldPlaces] at h
    split at h
    · rename_i n r hn hr
      injection h with h; subst h
      obtain ⟨i, hi, rfl⟩ := tySize_info hn
      simp [List.mapM_cons, hi, fieldPlaces_mapM fs r hr]
    · cases h

theorem parts_rel {parts : Array (Nat × Operand)} {ps : List (Nat × Get)} (hp : opdP parts.toList = some ps) (r : TRel ρ t a.tmps) :
    (getsP t ps).map (·.1) = (parts.map fun (i, x) => (i, a.eval x)).toList.map (·.1) ∧ VRelL ρ ((getsP t ps).map (·.2)) ((parts.map fun (i, x) => (i, a.eval x)).toList.map (·.2)) := by
  obtain ⟨h1, h2⟩ := opdP_rel hp r
  refine ⟨?_, ?_⟩
  · rw [h1]; simp [Function.comp_def]
  · simpa [Function.comp_def] using h2

theorem buildS_ok {o : Oper} {ty : TypeId} {parts : Array (Nat × Operand)} {z : List AV} {fields : Array Field} {ps : List (Nat × Get)} {pl : List (Nat × Nat)} (ho : o.op = .build ty parts) (hz : tyZero P ty = .yes z)
    (hu : P.underlying ty = some (.struct fields)) (hp : opdP parts.toList = some ps) (hpl : fieldPlaces P fields.toList = some pl) : PureOk P o (buildA (pl[·]?) z ps) := by
  intro ρ t a w v r h
  unfold buildA at h
  split at h
  · rename_i cs hcs
    injection h with h; subst h
    obtain ⟨h1, h2⟩ := parts_rel hp r
    obtain ⟨zv, l, hzv, hcells, hl⟩ := tyZero_run hz
    obtain ⟨l', e1, e2⟩ := fill_rel (ρ := ρ) _ _ _ _ l _ hcs (hl ρ) h1 h2
    refine ⟨.agg l'.toArray, ?_, l', rfl, e2⟩
    have hb : P.built ty (parts.map fun (i, x) => (i, a.eval x)).toList = some l'.toArray := by
      unfold Program.built
      unfold tyZero tyZeroV at hz
      cases hi : P.info? ty with
      | none => rw [hi] at hz; cases hz
      | some it =>
        rw [hi] at hz
        simp only [] at hz
        cases hz' : it.zero with
        | none => rw [hz'] at hz; cases hz
        | some z' =>
          have hzr := hzv w
          simp only [zeroValue, typeInfo, hi, hz', Sem.run_bind, run_program, Result.andThen_ok, Sem.run_pure] at hzr
          have : z' = zv := by simpa using hzr
          subst this
          simp only [hu, hz', fieldPlaces_mapM _ _ hpl, hcells]
          rw [← e1]
          congr 1
          funext i
          simp
    simp [execOp, ho, run_build w ty _ _ hb]
  · cases h

theorem buildA_ok {o : Oper} {ty e : TypeId} {parts : Array (Nat × Operand)} {z : List AV} {len n : Nat} {ps : List (Nat × Get)} (ho : o.op = .build ty parts) (hz : tyZero P ty = .yes z)
    (hu : P.underlying ty = some (.array len e)) (hp : opdP parts.toList = some ps) (hn : tySize P e = some n) : PureOk P o (buildA (fun i => some (i * n, n)) z ps) := by
  intro ρ t a w v r h
  unfold buildA at h
  split at h
  · rename_i cs hcs
    injection h with h; subst h
    obtain ⟨h1, h2⟩ := parts_rel hp r
    obtain ⟨zv, l, hzv, hcells, hl⟩ := tyZero_run hz
    obtain ⟨l', e1, e2⟩ := fill_rel (ρ := ρ) _ _ _ _ l _ hcs (hl ρ) h1 h2
    refine ⟨.agg l'.toArray, ?_, l', rfl, e2⟩
    simp only [execOp, ho, Instr.build, Sem.run_bind, hzv, Result.andThen_ok, run_under hu, run_sz hn, hcells, e1, Sem.run_pure]
  · cases h
end
end Go.Ev
