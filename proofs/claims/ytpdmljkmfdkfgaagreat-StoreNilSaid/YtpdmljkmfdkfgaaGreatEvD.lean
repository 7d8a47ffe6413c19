/-
  What is proved: each operation of the model's code that neither writes nor reads memory: its abstract value stands for its value. No condition.
-/
import Derived.Test.YtpdmljkmfdkfgaaGreatEvC
import Derived.Lib.Bytes
namespace Go.Ev

/-! ### constants and operands -/
mutual
theorem cv_rel (ρ : Rho) : ∀ (v : Value) (x : AV), cv v = .yes x → VRel ρ x v := by
  intro v x h
  unfold cv at h
  split at h
  case h_1 => injection h with h; subst h; rfl
  case h_2 => injection h with h; subst h; rfl
  case h_3 s => injection h with h; subst h; exact ⟨s, rfl, rfl⟩
  case h_4 => injection h with h; subst h; rfl
  case h_5 => injection h with h; subst h; rfl
  case h_6 => injection h with h; subst h; rfl
  case h_7 => injection h with h; subst h; rfl
  case h_8 => injection h with h; subst h; rfl
  case h_9 => injection h with h; subst h; rfl
  case h_10 cs =>
    cases hc : cvA cs with
    | no => rw [hc] at h; cases h
    | yes l =>
      rw [hc] at h
      injection h with h
      subst h
      exact cvA_rel ρ cs l hc
  case h_11 => cases h
theorem cvA_rel (ρ : Rho) : ∀ (cs : Array Value) (l : List AV), cvA cs = .yes l → VRel ρ (.agg l) (.agg cs)
  | ⟨l⟩, ys, h => ⟨l, rfl, cvL_rel ρ l ys h⟩
theorem cvL_rel (ρ : Rho) : ∀ (vs : List Value) (l : List AV), cvL vs = .yes l → VRelL ρ l vs
  | [], l, h => by unfold cvL at h; injection h with h; subst h; rfl
  | v :: vs, l, h => by
    unfold cvL at h
    cases h1 : cv v with
    | no => rw [h1] at h; cases h
    | yes x =>
      rw [h1] at h
      simp only [] at h
      cases h2 : cvL vs with
      | no => rw [h2] at h; cases h
      | yes xs =>
        rw [h2] at h
        injection h with h
        subst h
        exact ⟨v, vs, rfl, cv_rel ρ v x h1, cvL_rel ρ vs xs h2⟩
end

section
variable {P : Program} {ρ : Rho} {t : TT} {a : Act}

theorem opd_rel {x : Operand} {g : Get} (h : opd x = some g) (r : TRel ρ t a.tmps) : VRel ρ (g t) (a.eval x) := by
  cases x with
  | tmp i =>
    simp only [opd] at h
    cases hi : okT i with
    | false => rw [hi] at h; cases h
    | true => rw [hi] at h; injection h with h; subst h; exact r i (okT_lt hi)
  | const v =>
    simp only [opd] at h
    cases hv : cv v with
    | no => rw [hv] at h; cases h
    | yes y => rw [hv] at h; injection h with h; subst h; exact cv_rel ρ v y hv
  | global g => simp only [opd] at h; injection h with h; subst h; exact ⟨_, rfl, rfl⟩
  | func f => simp only [opd] at h; injection h with h; subst h; exact ⟨[], [], rfl, rfl, rfl⟩

theorem opds_rel : ∀ {xs : List Operand} {gs : List Get}, opds xs = some gs → TRel ρ t a.tmps → VRelL ρ (gets t gs) (xs.map a.eval)
  | [], gs, h, _ => by simp only [opds] at h; injection h with h; subst h; rfl
  | x :: xs, gs, h, r => by
    simp only [opds] at h
    cases hx : opd x with
    | none => rw [hx] at h; cases h
    | some g =>
      rw [hx] at h
      simp only [] at h
      cases hs : opds xs with
      | none => rw [hs] at h; cases h
      | some gs' => rw [hs] at h; injection h with h; subst h; exact ⟨_, _, rfl, opd_rel hx r, opds_rel hs r⟩

theorem opdP_rel : ∀ {xs : List (Nat × Operand)} {gs : List (Nat × Get)}, opdP xs = some gs → TRel ρ t a.tmps →
    (getsP t gs).map (·.1) = xs.map (·.1) ∧ VRelL ρ ((getsP t gs).map (·.2)) (xs.map fun p => a.eval p.2)
  | [], gs, h, _ => by simp only [opdP] at h; injection h with h; subst h; exact ⟨rfl, rfl⟩
  | (i, x) :: xs, gs, h, r => by
    simp only [opdP] at h
    cases hx : opd x with
    | none => rw [hx] at h; cases h
    | some g =>
      rw [hx] at h
      simp only [] at h
      cases hs : opdP xs with
      | none => rw [hs] at h; cases h
      | some gs' =>
        rw [hs] at h
        injection h with h
        subst h
        obtain ⟨e, f⟩ := opdP_rel hs r
        exact ⟨by simp only [getsP, List.map_cons, e], _, _, rfl, opd_rel hx r, f⟩

theorem opt_rel {x : Option Operand} {g : Option Get} (h : opt x = some g) (r : TRel ρ t a.tmps) : OptRel ρ (g.map (· t)) (x.map a.eval) := by
  cases x with
  | none => simp only [opt] at h; injection h with h; subst h; trivial
  | some x =>
    simp only [opt] at h
    cases hx : opd x with
    | none => rw [hx] at h; cases h
    | some g' => rw [hx] at h; injection h with h; subst h; exact opd_rel hx r

/-- What a pure operation is to do. -/
def PureOk (P : Program) (o : Oper) (f : TT → OV) : Prop :=
  ∀ (ρ : Rho) (t : TT) (a : Act) (w : World) (v : AV), TRel ρ t a.tmps → f t = .yes v → ∃ x, (execOp a.eval o).run P w = .ok (.value x) w ∧ VRel ρ v x

theorem asI_yes {v : AV} {f : IntKind → Int → OV} {u : AV} (h : asI v f = .yes u) : ∃ k n, v = .int k n ∧ f k n = .yes u := by
  cases v <;> first | exact ⟨_, _, rfl, h⟩ | cases h
theorem VRel.int_eq {ρ : Rho} {k : IntKind} {n : Int} {x : Value} (h : VRel ρ (.int k n) x) : x = .int k n := h

theorem int2_rel {f : IntKind → Int → Int → OV} {x y : Operand} {gx gy : Get} (hx : opd x = some gx) (hy : opd y = some gy) (r : TRel ρ t a.tmps) {v : AV} (h : int2 f gx gy t = .yes v) :
    ∃ k m n, a.eval x = .int k m ∧ a.eval y = .int k n ∧ f k m n = .yes v := by
  obtain ⟨k, m, e1, h1⟩ := asI_yes h
  obtain ⟨k', n, e2, h2⟩ := asI_yes h1
  have rx := opd_rel hx r
  have ry := opd_rel hy r
  rw [e1] at rx
  rw [e2] at ry
  cases hk : eqK k k' with
  | false => rw [hk] at h2; cases h2
  | true =>
    rw [hk] at h2
    have := eqK_iff.1 hk
    subst this
    exact ⟨k, m, n, rx, ry, h2⟩

theorem toU_bv (k : IntKind) (x : Int) : (BitVec.ofInt k.bits x).toNat = toU k x := by
  rw [BitVec.toNat_ofInt]
  have := toU_eq k x
  have e : ((2 ^ k.bits : Nat) : Int) = (2 ^ k.bits : Int) := by push_cast; rfl
  rw [e]
  omega

theorem move_ok {o : Oper} {x : Operand} {g : Get} (ho : o.op = .move x ∨ o.op = .assign x) (hg : opd x = some g) : PureOk P o fun t => .yes (g t) := by
  intro ρ t a w v r h
  injection h with h
  subst h
  refine ⟨a.eval x, ?_, opd_rel hg r⟩
  rcases ho with ho | ho <;> simp [execOp, ho]

theorem pick_ok {o : Oper} {c x y : Operand} {gc gx gy : Get} (ho : o.op = .pick c x y) (hc : opd c = some gc) (hx : opd x = some gx) (hy : opd y = some gy) : PureOk P o (pickA gc gx gy) := by
  intro ρ t a w v r h
  have rc := opd_rel hc r
  unfold pickA at h
  split at h
  · rename_i e
    injection h with h
    subst h
    rw [e] at rc
    have rc : a.eval c = .bool true := rc
    exact ⟨a.eval x, by simp [execOp, ho, rc, asBool], opd_rel hx r⟩
  · rename_i e
    injection h with h
    subst h
    rw [e] at rc
    have rc : a.eval c = .bool false := rc
    exact ⟨a.eval y, by simp [execOp, ho, rc, asBool], opd_rel hy r⟩
  · cases h

theorem int_ok {o : Oper} {op : BinOp} {ty ty' : TypeId} {x y : Operand} {gx gy : Get} {f : IntKind → Int → Int → OV} (ho : o.op = .binOp op ty x y ty') (hx : opd x = some gx) (hy : opd y = some gy)
    (hf : intFn op = some f) : PureOk P o (int2 f gx gy) := by
  intro ρ t a w v r h
  obtain ⟨k, m, n, ex, ey, e⟩ := int2_rel hx hy r h
  have guard : (eqGuard op ty x y (.int k m) (.int k n)) = pure () := by cases op <;> rfl
  have base : (execOp a.eval o) = (do let v ← binOp op ty (.int k m) (.int k n); pure (.value v)) := by simp [execOp, ho, ex, ey, guard]
  have fin : ∀ u : Value, (binOp op ty (.int k m) (.int k n)).run P w = .ok u w → (execOp a.eval o).run P w = .ok (.value u) w := by
    intro u hu
    rw [base]
    simp [hu]
  cases op <;> simp only [intFn] at hf <;> first | (cases hf; done) | (injection hf with hf; subst hf)
  case add => rw [fAdd, wrapF_eq, addI_eq] at e; injection e with e; subst e; exact ⟨_, fin _ (by simp [binOp, Op.intArith]), rfl⟩
  case sub => rw [fSub, wrapF_eq, subI_eq] at e; injection e with e; subst e; exact ⟨_, fin _ (by simp [binOp, Op.intArith]), rfl⟩
  case mul => rw [fMul, wrapF_eq, mulI_eq] at e; injection e with e; subst e; exact ⟨_, fin _ (by simp [binOp, Op.intArith]), rfl⟩
  case quo =>
    rw [fQuo, eqI_eq] at e
    cases hn : (n == 0) with
    | true => rw [hn] at e; cases e
    | false =>
      rw [hn, cond_false, wrapF_eq] at e; injection e with e; subst e
      have : ¬ n = 0 := by simpa using hn
      exact ⟨_, fin _ (by simp [binOp, Op.intDiv, this]), rfl⟩
  case rem =>
    rw [fRem, eqI_eq] at e
    cases hn : (n == 0) with
    | true => rw [hn] at e; cases e
    | false =>
      rw [hn, cond_false, fin_eq] at e; injection e with e; subst e
      have : ¬ n = 0 := by simpa using hn
      exact ⟨_, fin _ (by simp [binOp, Op.intDiv, this]), rfl⟩
  case eql => rw [fEq, okB_eq, eqI_eq] at e; injection e with e; subst e; exact ⟨_, fin _ (by simp [binOp, Op.intCmp]), rfl⟩
  case neq => rw [fNe, okB_eq, eqI_eq] at e; injection e with e; subst e; exact ⟨_, fin _ (by simp [binOp, Op.intCmp]; rfl), rfl⟩
  case lss => rw [fLt, okB_eq, ltI_eq] at e; injection e with e; subst e; exact ⟨_, fin _ (by simp [binOp, Op.intCmp]), rfl⟩
  case leq =>
    rw [fLe, okB_eq, ltI_eq] at e; injection e with e; subst e
    have hb : decide (m ≤ n) = !decide (n < m) := by rw [Bool.eq_iff_iff]; simp
    exact ⟨.bool (!decide (n < m)), fin _ (by rw [← hb]; simp [binOp, Op.intCmp]), rfl⟩
  case gtr => rw [fGt, okB_eq, ltI_eq] at e; injection e with e; subst e; exact ⟨_, fin _ (by simp [binOp, Op.intCmp]), rfl⟩
  case geq =>
    rw [fGe, okB_eq, ltI_eq] at e; injection e with e; subst e
    have hb : decide (n ≤ m) = !decide (m < n) := by rw [Bool.eq_iff_iff]; simp
    exact ⟨.bool (!decide (m < n)), fin _ (by rw [← hb]; simp [binOp, Op.intCmp]), rfl⟩
  case and =>
    rw [fAnd, wrapF_eq] at e; injection e with e; subst e
    refine ⟨.int k (k.wrap (BitVec.ofInt k.bits m &&& BitVec.ofInt k.bits n).toNat), fin _ (by simp [binOp, Op.intBits]), ?_⟩
    rw [BitVec.toNat_and, toU_bv, toU_bv]; rfl
  case or =>
    rw [fOr, wrapF_eq] at e; injection e with e; subst e
    refine ⟨.int k (k.wrap (BitVec.ofInt k.bits m ||| BitVec.ofInt k.bits n).toNat), fin _ (by simp [binOp, Op.intBits]), ?_⟩
    rw [BitVec.toNat_or, toU_bv, toU_bv]; rfl
  case xor =>
    rw [fXor, wrapF_eq] at e; injection e with e; subst e
    refine ⟨.int k (k.wrap (BitVec.ofInt k.bits m ^^^ BitVec.ofInt k.bits n).toNat), fin _ (by simp [binOp, Op.intBits]), ?_⟩
    rw [BitVec.toNat_xor, toU_bv, toU_bv]; rfl

theorem shCount (k : IntKind) (b : Nat) : (bif Nat.ble b k.bits then b else k.bits) = min b k.bits := by
  cases h : Nat.ble b k.bits with
  | true => have := ble_iff.1 h; simp only [cond_true]; omega
  | false => have : ¬ b ≤ k.bits := fun e => by rw [ble_iff.2 e] at h; cases h
             simp only [cond_false]; omega

theorem shl_ok {o : Oper} {ty ty' : TypeId} {x y : Operand} {gx gy : Get} (ho : o.op = .binOp .shl ty x y ty') (hx : opd x = some gx) (hy : opd y = some gy) : PureOk P o (shl2 gx gy) := by
  intro ρ t a w v r h
  obtain ⟨k, m, e1, h1⟩ := asI_yes h
  obtain ⟨k', n, e2, h2⟩ := asI_yes h1
  have rx := opd_rel hx r
  have ry := opd_rel hy r
  rw [e1] at rx
  rw [e2] at ry
  have rx : a.eval x = .int k m := rx
  have ry : a.eval y = .int k' n := ry
  cases n with
  | negSucc n => cases h2
  | ofNat n =>
    simp only [shCount, wrapF_eq, mulI_eq] at h2
    injection h2 with h2
    subst h2
    refine ⟨_, ?_, rfl⟩
    have hn : ¬ (Int.ofNat n : Int) < 0 := by simp
    have e : binOp .shl ty (.int k m) (.int k' (Int.ofNat n)) = pure (.int k (k.wrap (m * 2 ^ (min n k.bits)))) := by
      show Op.shift .shl k m k' (Int.ofNat n) = _
      unfold Op.shift
      rw [if_neg hn]
      rfl
    have g : (eqGuard .shl ty x y (.int k m) (.int k' (Int.ofNat n))) = pure () := rfl
    have h2 : (2 : Int) ^ (min n k.bits) = Int.ofNat (Nat.pow 2 (min n k.bits)) := by simp
    simp only [execOp, ho, rx, ry, g, e]
    rw [← h2]
    rfl

theorem shr_ok {o : Oper} {ty ty' : TypeId} {x y : Operand} {gx gy : Get} (ho : o.op = .binOp .shr ty x y ty') (hx : opd x = some gx) (hy : opd y = some gy) : PureOk P o (shr2 gx gy) := by
  intro ρ t a w v r h
  obtain ⟨k, m, e1, h1⟩ := asI_yes h
  obtain ⟨k', n, e2, h2⟩ := asI_yes h1
  have rx := opd_rel hx r
  have ry := opd_rel hy r
  rw [e1] at rx
  rw [e2] at ry
  have rx : a.eval x = .int k m := rx
  have ry : a.eval y = .int k' n := ry
  cases n with
  | negSucc n => cases h2
  | ofNat n =>
    have hn : ¬ (Int.ofNat n : Int) < 0 := by simp
    have e : binOp .shr ty (.int k m) (.int k' (Int.ofNat n)) = pure (.int k (m.fdiv (2 ^ (min n k.bits)))) := by
      show Op.shift .shr k m k' (Int.ofNat n) = _
      unfold Op.shift
      rw [if_neg hn]
      rfl
    have g : (eqGuard .shr ty x y (.int k m) (.int k' (Int.ofNat n))) = pure () := rfl
    have run : (execOp a.eval o).run P w = .ok (.value (.int k (m.fdiv (2 ^ (min n k.bits))))) w := by
      simp only [execOp, ho, rx, ry, g, e]
      rfl
    refine ⟨_, run, ?_⟩
    simp only [shCount] at h2
    cases m with
    | negSucc m => simp only [fin_eq] at h2; injection h2 with h2; subst h2; rfl
    | ofNat m =>
      simp only [forceN_eq] at h2
      injection h2 with h2
      subst h2
      show Value.int _ _ = Value.int _ _
      congr 1
      have e : ((2 : Int) ^ min n k.bits) = ((2 ^ min n k.bits : Nat) : Int) := by push_cast; rfl
      rw [e]
      show (m : Int).fdiv _ = _
      rw [Int.fdiv_eq_ediv_of_nonneg _ (Int.natCast_nonneg _)]
      rfl

theorem convInt_ok {o : Oper} {src dst : TypeId} {ks k : IntKind} {x : Operand} {g : Get} (ho : o.op = .convert src dst x) (hs : P.underlying src = some (.int ks)) (hd : P.underlying dst = some (.int k))
    (hx : opd x = some g) : PureOk P o (convInt k g) := by
  intro ρ t a w v r h
  obtain ⟨k', m, e1, h1⟩ := asI_yes h
  have rx := opd_rel hx r
  rw [e1] at rx
  have rx : a.eval x = .int k' m := rx
  rw [wrapF_eq] at h1
  injection h1 with h1
  subst h1
  exact ⟨_, by simp [execOp, ho, rx, convert, underlying, hs, hd, Conv.intToInt], rfl⟩

theorem neg_ok {o : Oper} {ty : TypeId} {x : Operand} {g : Get} (ho : o.op = .unOp .neg ty x) (hx : opd x = some g) : PureOk P o (negA g) := by
  intro ρ t a w v r h
  obtain ⟨k, m, e1, h1⟩ := asI_yes h
  have rx := opd_rel hx r
  rw [e1] at rx
  have rx : a.eval x = .int k m := rx
  rw [wrapF_eq, subI_eq] at h1
  injection h1 with h1
  subst h1
  exact ⟨_, by simp only [execOp, ho, rx, Op.unary, Op.intArith]; simp only [Sem.run_bind, Sem.run_pure, Result.andThen_ok], rfl⟩

theorem com_ok {o : Oper} {ty : TypeId} {x : Operand} {g : Get} (ho : o.op = .unOp .xor ty x) (hx : opd x = some g) : PureOk P o (comA g) := by
  intro ρ t a w v r h
  obtain ⟨k, m, e1, h1⟩ := asI_yes h
  have rx := opd_rel hx r
  rw [e1] at rx
  have rx : a.eval x = .int k m := rx
  rw [fXor, wrapF_eq] at h1
  injection h1 with h1
  subst h1
  refine ⟨.int k (k.wrap (BitVec.ofInt k.bits (if k.signed then -1 else k.max) ^^^ BitVec.ofInt k.bits m).toNat), by simp [execOp, ho, rx, Op.unary, Op.intBits], ?_⟩
  rw [BitVec.toNat_xor, toU_bv, toU_bv]; rfl

theorem not_ok {o : Oper} {ty : TypeId} {x : Operand} {g : Get} (ho : o.op = .unOp .not ty x) (hx : opd x = some g) : PureOk P o (notA g) := by
  intro ρ t a w v r h
  have rx := opd_rel hx r
  unfold notA at h
  split at h
  · rename_i b e
    rw [okB_eq] at h
    injection h with h
    subst h
    rw [e] at rx
    have rx : a.eval x = .bool b := rx
    exact ⟨_, by simp [execOp, ho, rx, Op.unary], rfl⟩
  · cases h

/-! ### texts -/
theorem strs_eq {b : ByteArray} {s : List Nat} (h : b.data.toList.map UInt8.toNat = s) : s.length = b.size := by rw [← h, List.length_map]; rfl
theorem toNat_inj : ∀ {a b : List UInt8}, a.map UInt8.toNat = b.map UInt8.toNat → a = b
  | [], [], _ => rfl
  | [], _ :: _, h => by simp at h
  | _ :: _, [], h => by simp at h
  | x :: a, y :: b, h => by
    simp only [List.map_cons, List.cons.injEq] at h
    rw [toNat_inj h.2, UInt8.toNat_inj.1 h.1]
theorem eqS_bytes {b c : ByteArray} {s u : List Nat} (hb : b.data.toList.map UInt8.toNat = s) (hc : c.data.toList.map UInt8.toNat = u) : (b.toList == c.toList) = eqS s u := by
  rw [Bool.eq_iff_iff, eqS_iff, beq_iff_eq, ByteArray.toList_eq, ByteArray.toList_eq, ← hb, ← hc]
  exact ⟨fun h => by rw [h], toNat_inj⟩
theorem ltS_bytes : ∀ {b c : List UInt8}, Op.bytesLess b c = ltS (b.map UInt8.toNat) (c.map UInt8.toNat)
  | [], [] => rfl
  | [], _ :: _ => rfl
  | _ :: _, [] => rfl
  | x :: b, y :: c => by
    simp only [Op.bytesLess, List.map_cons, ltS]
    rw [ltS_bytes]
    have h1 : decide (x < y) = Nat.blt x.toNat y.toNat := by rw [Bool.eq_iff_iff, blt_iff, decide_eq_true_iff]; exact UInt8.lt_iff_toNat_lt
    have h2 : (x == y) = Nat.beq x.toNat y.toNat := by rw [Bool.eq_iff_iff, beq_iff, beq_iff_eq]; exact UInt8.toNat_inj.symm
    rw [h1, h2]
    cases Nat.blt x.toNat y.toNat <;> cases Nat.beq x.toNat y.toNat <;> simp
theorem ltS_byteArrays {b c : ByteArray} {s u : List Nat} (hb : b.data.toList.map UInt8.toNat = s) (hc : c.data.toList.map UInt8.toNat = u) : Op.bytesLess b.toList c.toList = ltS s u := by
  rw [ByteArray.toList_eq, ByteArray.toList_eq, ltS_bytes, hb, hc]

theorem str_ok {o : Oper} {op : BinOp} {ty ty' : TypeId} {x y : Operand} {gx gy : Get} (ho : o.op = .binOp op ty x y ty') (hx : opd x = some gx) (hy : opd y = some gy) : PureOk P o (str2 op gx gy) := by
  intro ρ t a w v r h
  have rx := opd_rel hx r
  have ry := opd_rel hy r
  unfold str2 at h
  split at h
  case h_2 => cases h
  rename_i s u e1 e2
  rw [e1] at rx
  rw [e2] at ry
  obtain ⟨b, ex, hb⟩ := rx
  obtain ⟨c, ey, hc⟩ := ry
  have he := eqS_bytes hb hc
  have hl := ltS_byteArrays hb hc
  have guard : (eqGuard op ty x y (.string b) (.string c)) = pure () := by cases op <;> rfl
  have base : (execOp a.eval o) = (do let v ← binOp op ty (.string b) (.string c); pure (.value v)) := by simp only [execOp, ho, ex, ey, guard]; rfl
  have fin : ∀ u : Value, (binOp op ty (.string b) (.string c)).run P w = .ok u w → (execOp a.eval o).run P w = .ok (.value u) w := by
    intro u hu
    rw [base]
    simp [hu]
  cases op <;> simp only [strOp, okB_eq] at h <;> first | (cases h; done) | skip
  case add =>
    cases hs : Nat.blt (s.length + u.length) 1000000000 with
    | false => rw [hs] at h; cases h
    | true =>
      rw [hs] at h
      injection h with h
      subst h
      have := blt_iff.1 hs
      rw [strs_eq hb, strs_eq hc] at this
      refine ⟨.string (b ++ c), fin _ ?_, ⟨b ++ c, rfl, ?_⟩⟩
      · have : ¬ ((b.size + c.size : Nat) : Int) > IntKind.i64.max := by rw [show IntKind.i64.max = 9223372036854775807 from rfl]; omega
        simp only [binOp, Op.stringOp, this, if_false]; rfl
      · rw [← hb, ← hc]; simp
  case eql => injection h with h; subst h; exact ⟨_, fin _ (by simp only [binOp, Op.stringOp]; rfl), by rw [he]; rfl⟩
  case neq => injection h with h; subst h; exact ⟨_, fin _ (by simp only [binOp, Op.stringOp]; rfl), by rw [he]; rfl⟩
  case lss => injection h with h; subst h; exact ⟨_, fin _ (by simp only [binOp, Op.stringOp]; rfl), by rw [hl]; rfl⟩
  case leq => injection h with h; subst h; exact ⟨_, fin _ (by simp only [binOp, Op.stringOp]; rfl), by rw [hl, he]; rfl⟩
  case gtr => injection h with h; subst h; exact ⟨_, fin _ (by simp only [binOp, Op.stringOp]; rfl), by rw [hl, he]; rfl⟩
  case geq => injection h with h; subst h; exact ⟨_, fin _ (by simp only [binOp, Op.stringOp]; rfl), by rw [hl]; rfl⟩

end
end Go.Ev
