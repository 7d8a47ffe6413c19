/-
  What is proved: how the trees, lists and numbers of the abstract run read back what was put into them, and what it is that an abstract value, object, heap stands for the model's (VRel, ORel, HRel, Goes). No condition.
-/
import Derived.Test.YtpdmljkmfdkfgaaGreatEvA
import Derived.RangeFuncRecord
import Derived.CallsIn
import Derived.OrdersIn
import Derived.Laws.Sem
import Derived.Laws.World
import Derived.IntWalk
namespace Go.Ev

/-! ### numbers -/
theorem forceN_eq {α : Type} (n : Nat) (k : Nat → α) : forceN n k = k n := by cases n <;> rfl
theorem forceB_eq {α : Type} (b : Bool) (k : Bool → α) : forceB b k = k b := by cases b <;> rfl
theorem addI_eq (a b : Int) : addI a b = a + b := by cases a <;> cases b <;> rfl
theorem negI_eq (a : Int) : negI a = -a := by
  cases a with
  | ofNat m => cases m <;> rfl
  | negSucc m => rfl
theorem subI_eq (a b : Int) : subI a b = a - b := by unfold subI; rw [addI_eq, negI_eq]; omega
theorem mulI_eq (a b : Int) : mulI a b = a * b := by
  cases a <;> cases b <;> simp only [mulI, negI_eq] <;> first | rfl | skip
theorem fin_eq (k : IntKind) (n : Int) : fin k n = .yes (.int k n) := by
  cases n <;> simp only [fin, forceN_eq]
theorem wrap64_eq (n : Int) : wrap64 n = .yes (.int .i64 (IntKind.i64.wrap n)) := by
  cases n with
  | ofNat m =>
    simp only [wrap64, forceN_eq, wrapS, fin_eq]
    cases h : Nat.ble m 9223372036854775807 with
    | false => rfl
    | true =>
      have hm := Nat.le_of_ble_eq_true h
      rw [show IntKind.i64.wrap (Int.ofNat m) = Int.ofNat m from IntWalk.i64_in _ ⟨by show _ ≤ (m : Int); omega, by show (m : Int) ≤ _; omega⟩]
      rfl
  | negSucc m =>
    simp only [wrap64, forceN_eq, wrapS, fin_eq]
    cases h : Nat.ble m 9223372036854775807 with
    | false => rfl
    | true =>
      have hm := Nat.le_of_ble_eq_true h
      rw [IntWalk.i64_in (Int.negSucc m) (by constructor <;> omega)]
      rfl
theorem wrapU_eq (k : IntKind) (w : Nat) (n : Int) (hk : k.signed = false) (hw : w = 2 ^ k.bits) : wrapU k w n = .yes (.int k (k.wrap n)) := by
  cases n with
  | ofNat m =>
    simp only [wrapU, forceN_eq, IntKind.wrap, hk, Bool.false_and, hw]
    show OV.yes (.int k (Int.ofNat (m % 2 ^ k.bits))) = _
    congr 2
  | negSucc m => simp only [wrapU, wrapS, fin_eq]
theorem wrapF_eq (k : IntKind) (n : Int) : wrapF k n = .yes (.int k (k.wrap n)) := by
  cases k
  case i64 => exact wrap64_eq n
  case u8 => exact wrapU_eq _ _ _ rfl (by decide)
  case u16 => exact wrapU_eq _ _ _ rfl (by decide)
  case u32 => exact wrapU_eq _ _ _ rfl (by decide)
  case u64 => exact wrapU_eq _ _ _ rfl (by decide)
  all_goals exact fin_eq _ _
theorem ltI_eq (a b : Int) : ltI a b = decide (a < b) := by
  cases a with
  | ofNat m =>
    cases b with
    | ofNat n =>
      show Nat.ble (m + 1) n = _
      rw [Bool.eq_iff_iff, Nat.ble_eq, decide_eq_true_iff]
      constructor <;> intro h
      · exact Int.ofNat_lt.2 h
      · exact Int.ofNat_lt.1 h
    | negSucc n => show false = _; symm; rw [decide_eq_false_iff_not]; simp; omega
  | negSucc m =>
    cases b with
    | ofNat n => show true = _; symm; rw [decide_eq_true_iff]; simp; omega
    | negSucc n =>
      show Nat.ble (n + 1) m = _
      rw [Bool.eq_iff_iff, Nat.ble_eq, decide_eq_true_iff]
      constructor <;> intro h <;> omega
theorem eqI_eq (a b : Int) : eqI a b = (a == b) := by
  cases a with
  | ofNat m =>
    cases b with
    | ofNat n =>
      show Nat.beq m n = _
      rw [Bool.eq_iff_iff, Nat.beq_eq, beq_iff_eq]
      constructor <;> intro h
      · rw [h]
      · exact Int.ofNat.inj h
    | negSucc n => rfl
  | negSucc m =>
    cases b with
    | ofNat n => rfl
    | negSucc n =>
      show Nat.beq m n = _
      rw [Bool.eq_iff_iff, Nat.beq_eq, beq_iff_eq]
      constructor <;> intro h
      · rw [h]
      · exact Int.negSucc.inj h
theorem eqK_iff {a b : IntKind} : eqK a b = true ↔ a = b := by cases a <;> cases b <;> simp [eqK, kix]
theorem okB_eq (b : Bool) : okB b = .yes (.bool b) := by cases b <;> rfl
theorem eqS_iff : ∀ {a b : List Nat}, eqS a b = true ↔ a = b := by
  intro a
  induction a with
  | nil => intro b; cases b <;> simp [eqS]
  | cons x a ih =>
    intro b
    cases b with
    | nil => simp [eqS]
    | cons y b =>
      simp only [eqS]
      cases h : Nat.beq x y with
      | true => have := Nat.eq_of_beq_eq_true h; simp [ih, this]
      | false => have := Nat.ne_of_beq_eq_false h; simp [this]
theorem toU_eq (k : IntKind) (n : Int) : ((toU k n : Nat) : Int) = n % (2 ^ k.bits : Int) := by
  cases n with
  | ofNat m => simp [toU]; rfl
  | negSucc m =>
    simp only [toU]
    rw [Int.toNat_of_nonneg]
    exact Int.emod_nonneg _ (by cases k <;> simp [IntKind.bits])

/-! ### paths -/
theorem okT_lt {i : Nat} (h : okT i = true) : i < 256 := by
  unfold okT Nat.blt at h
  exact Nat.le_of_ble_eq_true h
theorem dig_inj {i j : Nat} (hi : i < 16) (hj : j < 16) (h : dig i = dig j) : i = j := by
  have val : ∀ i : Nat, i < 16 → D.rec 0 1 2 3 4 5 6 7 8 9 10 11 12 13 14 15 (dig i) = i := by
    intro i hi
    match i with
    | 0 => rfl
    | 1 => rfl
    | 2 => rfl
    | 3 => rfl
    | 4 => rfl
    | 5 => rfl
    | 6 => rfl
    | 7 => rfl
    | 8 => rfl
    | 9 => rfl
    | 10 => rfl
    | 11 => rfl
    | 12 => rfl
    | 13 => rfl
    | 14 => rfl
    | 15 => rfl
    | n + 16 => omega
  rw [← val i hi, ← val j hj, h]
theorem pth_inj {i j : Nat} (hi : i < 256) (hj : j < 256) (h : pth i = pth j) : i = j := by
  have h1 := congrArg Pth.hi h
  have h2 := congrArg Pth.lo h
  have e1 := dig_inj (i := i / 16) (j := j / 16) (by omega) (by omega) h1
  have e2 := dig_inj (i := i % 16) (j := j % 16) (by omega) (by omega) h2
  omega

instance : DecidableEq D := fun a b => by
  cases a <;> cases b <;> first | exact isTrue rfl | exact isFalse (fun h => by cases h)
instance : DecidableEq Pth := fun a b => by
  obtain ⟨a, b⟩ := a
  rename_i p
  obtain ⟨c, d⟩ := p
  exact (match decEq a c, decEq b d with
    | isTrue h, isTrue g => isTrue (by rw [h, g])
    | isFalse h, _ => isFalse (fun e => h (congrArg Pth.hi e))
    | _, isFalse h => isFalse (fun e => h (congrArg Pth.lo e)))

theorem Q.get_all {α : Type} (d : D) (x : α) : (Q.all x).get d = x := by cases d <;> rfl
theorem Q.get_set {α : Type} (d c : D) (x : α) (q : Q α) : (q.set c x).get d = if d = c then x else q.get d := by
  cases c <;> cases d <;> first | (rw [if_pos rfl]; rfl) | (rw [if_neg (fun h => by cases h)]; rfl)
theorem TT.get_e (p : Pth) : TT.get p .e = .undef := by unfold TT.get TT.e; rw [Q.get_all, Q.get_all]
theorem TT.get_set (p q : Pth) (x : AV) (t : TT) : TT.get p (TT.set q x t) = if p = q then x else TT.get p t := by
  obtain ⟨ph, pl⟩ := p
  obtain ⟨qh, ql⟩ := q
  unfold TT.get TT.set
  simp only [Q.get_set]
  by_cases h : ph = qh
  · subst h
    rw [if_pos rfl, Q.get_set]
    by_cases g : pl = ql
    · subst g; rw [if_pos rfl, if_pos rfl]
    · rw [if_neg g, if_neg (fun e => g (congrArg Pth.lo e))]
  · rw [if_neg h, if_neg (fun e => h (congrArg Pth.hi e))]

/-! ### the tree by numbers -/
section tr
variable {α : Type}
theorem Tr.get_e (k : Nat) : (Tr.e : Tr α).get k = none := rfl
theorem Tr.get_zero (l r : Tr α) (v : Option α) : (Tr.n l v r).get 0 = v := rfl
theorem Tr.get_succ (l r : Tr α) (v : Option α) (k : Nat) : (Tr.n l v r).get (k + 1) = if k % 2 = 0 then l.get (k / 2) else r.get (k / 2) := by
  have e : (Tr.n l v r).get (k + 1) = @Nat.rec (fun _ => Option α) (l.get (k / 2)) (fun _ _ => r.get (k / 2)) (k % 2) := rfl
  rw [e]
  have : k % 2 = 0 ∨ k % 2 = 1 := by omega
  rcases this with h | h <;> rw [h] <;> rfl
theorem Tr.put_zero (d : Nat) (x : Option α) (t : Tr α) : Tr.put (d + 1) x 0 t = match t with | .e => .n .e x .e | .n l _ r => .n l x r := by cases t <;> rfl
theorem Tr.put_succ (d : Nat) (x : Option α) (k : Nat) (t : Tr α) : Tr.put (d + 1) x (k + 1) t =
    if k % 2 = 0 then (match t with | .e => .n (Tr.put d x (k / 2) .e) none .e | .n l v r => .n (Tr.put d x (k / 2) l) v r)
    else (match t with | .e => .n .e none (Tr.put d x (k / 2) .e) | .n l v r => .n l v (Tr.put d x (k / 2) r)) := by
  have this : k % 2 = 0 ∨ k % 2 = 1 := by omega
  cases t with
  | e =>
    have e : Tr.put (d + 1) x (k + 1) (.e : Tr α) = @Nat.rec (fun _ => Tr α) (.n (Tr.put d x (k / 2) .e) none .e) (fun _ _ => .n .e none (Tr.put d x (k / 2) .e)) (k % 2) := rfl
    rw [e]
    rcases this with h | h <;> rw [h] <;> rfl
  | n l v r =>
    have e : Tr.put (d + 1) x (k + 1) (.n l v r) = @Nat.rec (fun _ => Tr α) (.n (Tr.put d x (k / 2) l) v r) (fun _ _ => .n l v (Tr.put d x (k / 2) r)) (k % 2) := rfl
    rw [e]
    rcases this with h | h <;> rw [h] <;> rfl

/-- What is read behind a 'put' was put, or stood there. -/
theorem Tr.get_put_le (x : Option α) : ∀ (d k j : Nat) (t : Tr α) (o : α), (Tr.put d x k t).get j = some o → (j = k ∧ x = some o) ∨ (j ≠ k ∧ t.get j = some o) := by
  intro d
  induction d with
  | zero => intro k j t o h; cases h
  | succ d ih =>
    intro k j t o h
    cases k with
    | zero =>
      rw [Tr.put_zero] at h
      cases t with
      | e =>
        cases j with
        | zero => exact .inl ⟨rfl, h⟩
        | succ j => rw [Tr.get_succ] at h; split at h <;> cases h
      | n l v r =>
        cases j with
        | zero => exact .inl ⟨rfl, h⟩
        | succ j => refine .inr ⟨by omega, ?_⟩; rw [Tr.get_succ] at h ⊢; exact h
    | succ k =>
      rw [Tr.put_succ] at h
      have hk2 : k % 2 = 0 ∨ k % 2 = 1 := by omega
      rcases hk2 with hk | hk
      · rw [if_pos hk] at h
        cases t with
        | e =>
          cases j with
          | zero => cases h
          | succ j =>
            rw [Tr.get_succ] at h
            split at h
            · rename_i hj
              rcases ih _ _ _ _ h with ⟨a, b⟩ | ⟨_, b⟩
              · exact .inl ⟨by omega, b⟩
              · cases b
            · cases h
        | n l v r =>
          cases j with
          | zero => exact .inr ⟨by omega, h⟩
          | succ j =>
            rw [Tr.get_succ] at h
            split at h
            · rename_i hj
              rcases ih _ _ _ _ h with ⟨a, b⟩ | ⟨a, b⟩
              · exact .inl ⟨by omega, b⟩
              · exact .inr ⟨by omega, by rw [Tr.get_succ, if_pos hj]; exact b⟩
            · rename_i hj
              exact .inr ⟨by omega, by rw [Tr.get_succ, if_neg hj]; exact h⟩
      · rw [if_neg (by omega)] at h
        cases t with
        | e =>
          cases j with
          | zero => cases h
          | succ j =>
            rw [Tr.get_succ] at h
            split at h
            · cases h
            · rename_i hj
              rcases ih _ _ _ _ h with ⟨a, b⟩ | ⟨_, b⟩
              · exact .inl ⟨by omega, b⟩
              · cases b
        | n l v r =>
          cases j with
          | zero => exact .inr ⟨by omega, h⟩
          | succ j =>
            rw [Tr.get_succ] at h
            split at h
            · rename_i hj
              exact .inr ⟨by omega, by rw [Tr.get_succ, if_pos hj]; exact h⟩
            · rename_i hj
              rcases ih _ _ _ _ h with ⟨a, b⟩ | ⟨a, b⟩
              · exact .inl ⟨by omega, b⟩
              · exact .inr ⟨by omega, by rw [Tr.get_succ, if_neg hj]; exact b⟩

/-- Where the depth suffices: just so. -/
theorem Tr.get_put (x : Option α) : ∀ (d k j : Nat) (t : Tr α), k + 1 < 2 ^ d → (Tr.put d x k t).get j = if j = k then x else t.get j := by
  intro d
  induction d with
  | zero => intro k j t h; simp at h
  | succ d ih =>
    intro k j t hk
    have h2 : 2 ^ (d + 1) = 2 * 2 ^ d := by rw [Nat.pow_succ]; omega
    cases k with
    | zero =>
      rw [Tr.put_zero]
      cases t with
      | e =>
        cases j with
        | zero => rfl
        | succ j => rw [if_neg (Nat.succ_ne_zero j), Tr.get_succ]; split <;> rfl
      | n l v r =>
        cases j with
        | zero => rfl
        | succ j => rw [if_neg (Nat.succ_ne_zero j), Tr.get_succ, Tr.get_succ]
    | succ k =>
      rw [Tr.put_succ]
      have hb : k / 2 + 1 < 2 ^ d := by omega
      split
      · rename_i h0
        cases t with
        | e =>
          cases j with
          | zero => rw [if_neg (by omega)]; rfl
          | succ j =>
            rw [Tr.get_succ]
            split
            · rename_i hj
              rw [ih _ _ _ hb]
              by_cases e : j / 2 = k / 2
              · rw [if_pos e, if_pos (by omega)]
              · rw [if_neg e, if_neg (by omega)]; rfl
            · rw [if_neg (by omega)]; rfl
        | n l v r =>
          cases j with
          | zero => rw [if_neg (by omega)]; rfl
          | succ j =>
            rw [Tr.get_succ, Tr.get_succ]
            split
            · rename_i hj
              rw [ih _ _ _ hb]
              by_cases e : j / 2 = k / 2
              · rw [if_pos e, if_pos (by omega)]
              · rw [if_neg e, if_neg (by omega)]
            · rw [if_neg (by omega)]
      · rename_i h0
        cases t with
        | e =>
          cases j with
          | zero => rw [if_neg (by omega)]; rfl
          | succ j =>
            rw [Tr.get_succ]
            split
            · rw [if_neg (by omega)]; rfl
            · rename_i hj
              rw [ih _ _ _ hb]
              by_cases e : j / 2 = k / 2
              · rw [if_pos e, if_pos (by omega)]
              · rw [if_neg e, if_neg (by omega)]; rfl
        | n l v r =>
          cases j with
          | zero => rw [if_neg (by omega)]; rfl
          | succ j =>
            rw [Tr.get_succ, Tr.get_succ]
            split
            · rw [if_neg (by omega)]
            · rename_i hj
              rw [ih _ _ _ hb]
              by_cases e : j / 2 = k / 2
              · rw [if_pos e, if_pos (by omega)]
              · rw [if_neg e, if_neg (by omega)]
end tr

/-! ### lists by place -/
theorem nthL_eq : ∀ (t : List AV) (i : Nat), nthL t i = match t[i]? with | some v => .yes v | none => .no := by
  intro t
  induction t with
  | nil => intro i; rfl
  | cons x t ih =>
    intro i
    cases i with
    | zero => rfl
    | succ i => exact ih i
theorem dropL_eq : ∀ (i : Nat) (t : List AV), dropL i t = t.drop i := by
  intro i
  induction i with
  | zero => intro t; rfl
  | succ i ih =>
    intro t
    cases t with
    | nil => rfl
    | cons x t => exact ih t
theorem takeL_yes : ∀ (i : Nat) (t ys : List AV), takeL i t = .yes ys → ys = t.take i ∧ i ≤ t.length := by
  intro i
  induction i with
  | zero => intro t ys h; injection h with h; subst h; simp
  | succ i ih =>
    intro t ys h
    cases t with
    | nil => cases h
    | cons x t =>
      change OL.casesOn (motive := fun _ => OL) (takeL i t) .no (fun ys => .yes (x :: ys)) = _ at h
      cases h' : takeL i t with
      | no => rw [h'] at h; cases h
      | yes zs =>
        rw [h'] at h
        injection h with h
        obtain ⟨a, b⟩ := ih t zs h'
        subst h a
        simp
        omega
theorem putL_yes : ∀ (i : Nat) (vs xs ys : List AV), putL i vs xs = .yes ys → ys.length = xs.length ∧ (vs ≠ [] → i + vs.length ≤ xs.length) ∧
    ∀ j, ys[j]? = if i ≤ j ∧ j < i + vs.length then vs[j - i]? else xs[j]? := by
  intro i vs xs
  induction xs generalizing i vs with
  | nil =>
    intro ys h
    cases vs with
    | nil => simp [putL] at h; subst h; simp
    | cons v vs => cases i <;> simp [putL] at h
  | cons x xs ih =>
    intro ys h
    cases vs with
    | nil => simp [putL] at h; subst h; simp; intro j hj hj'; omega
    | cons v vs =>
      cases i with
      | zero =>
        simp only [putL] at h
        cases h' : putL 0 vs xs with
        | no => rw [h'] at h; cases h
        | yes zs =>
          rw [h'] at h
          injection h with h
          obtain ⟨a, b, c⟩ := ih 0 vs zs h'
          subst h
          refine ⟨by simp [a], ?_, fun j => ?_⟩
          · intro _
            cases vs with
            | nil => simp
            | cons u vs => have := b (by simp); simp at this ⊢; omega
          · cases j with
            | zero => simp
            | succ j => simp [c j]
      | succ i =>
        simp only [putL] at h
        cases h' : putL i (v :: vs) xs with
        | no => rw [h'] at h; cases h
        | yes zs =>
          rw [h'] at h
          injection h with h
          obtain ⟨a, b, c⟩ := ih i (v :: vs) zs h'
          subst h
          refine ⟨by simp [a], ?_, fun j => ?_⟩
          · intro _; have := b (by simp); simp at this ⊢; omega
          · cases j with
            | zero => simp
            | succ j =>
              have := c j
              simp only [List.length_cons, List.getElem?_cons_succ] at this ⊢
              rw [this]
              by_cases hj : i ≤ j ∧ j < i + (vs.length + 1)
              · rw [if_pos hj, if_pos (by omega), show j + 1 - (i + 1) = j - i by omega]
              · rw [if_neg hj, if_neg (by omega)]

end Go.Ev
