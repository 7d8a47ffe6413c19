/-
  What is proved: what an abstract value, object, heap stands for in the model's memory (VRel, ORel, HRel), how that stays when memory grows, when an object is made, turned, dropped (Goes). No condition.
-/
import Derived.Test.YtpdmljkmfdkfgaaGreatEvB
namespace Go.Ev

/-- Where an abstract object lies: its block, where in it it begins, (of one that may grow) the block's cells and an element's. -/
structure Loc where
  blk : Nat
  sh : Nat
  full : Nat
  esz : Nat

abbrev Rho := Nat → Option Loc
def Rho.le (ρ ρ' : Rho) : Prop := ∀ i L, ρ i = some L → ρ' i = some L
theorem Rho.le_refl (ρ : Rho) : ρ.le ρ := fun _ _ h => h
theorem Rho.le_trans {a b c : Rho} (h : a.le b) (h' : b.le c) : a.le c := fun i L x => h' i L (h i L x)

def PRel (ρ : Rho) : Blk → Nat → Addr → Prop
  | .n i, off, a => ∃ L, ρ i = some L ∧ a = ⟨L.blk, off + L.sh, none⟩
  | .o i, off, a => a = ⟨i, off, none⟩

def ARel (ρ : Rho) : Atom → Value → Prop
  | .str s, x => ∃ b : ByteArray, x = .string b ∧ b.data.toList.map UInt8.toNat = s
  | .nilp, x => x = .pointer none
  | .ptr b off, x => ∃ a, x = .pointer (some a) ∧ PRel ρ b off a
  | .nils, x => x = .slice none 0 0
  | .slice b off len cap, x => ∃ a, x = .slice (some a) len cap ∧ PRel ρ b off a
  | .oslice i off len z, x => ∃ L c o, ρ i = some L ∧ L.esz = z ∧ x = .slice (some ⟨L.blk, o, none⟩) len c ∧ len ≤ c ∧ off + L.sh + c * L.esz = L.full ∧ (c = 0 ∨ o = off + L.sh)
  | .nilm, x => x = .map none
  | .map i, x => ∃ L, ρ i = some L ∧ x = .map (some L.blk)
  | .nilc, x => x = .chan none
  | .chan i, x => ∃ L, ρ i = some L ∧ x = .chan (some L.blk)
  | .yield i, x => ∃ L, ρ i = some L ∧ x = .func (.yield L.blk) #[] #[]
  | .nilf, x => x = .nilFunc
  | .nili, x => x = .nilIface
  | .iter i, x => ∃ L, ρ i = some L ∧ x = .pointer (some ⟨L.blk, 0, none⟩)
  | .old v, x => x = v ∧ v.oneCell' = true

mutual
def VRel (ρ : Rho) : AV → Value → Prop
  | .int k n, x => x = .int k n
  | .bool b, x => x = .bool b
  | .at a, x => ARel ρ a x
  | .agg cs, x => ∃ l : List Value, x = .agg l.toArray ∧ VRelL ρ cs l
  | .tup cs, x => ∃ l : List Value, x = .tuple l.toArray ∧ VRelL ρ cs l
  | .fn f a b, x => ∃ l m : List Value, x = .func f l.toArray m.toArray ∧ VRelL ρ a l ∧ VRelL ρ b m
  | .iface t v, x => ∃ y, x = .iface t y ∧ VRel ρ v y
def VRelL (ρ : Rho) : List AV → List Value → Prop
  | [], l => l = []
  | v :: vs, l => ∃ x xs, l = x :: xs ∧ VRel ρ v x ∧ VRelL ρ vs xs
end

def OptRel (ρ : Rho) : Option AV → Option Value → Prop
  | none, none => True
  | some v, some u => VRel ρ v u
  | _, _ => False

theorem PRel.mono {ρ ρ' : Rho} (h : ρ.le ρ') {b : Blk} {off : Nat} {a : Addr} (r : PRel ρ b off a) : PRel ρ' b off a := by
  cases b with
  | n i => obtain ⟨L, h1, h2⟩ := r; exact ⟨L, h _ _ h1, h2⟩
  | o i => exact r
theorem ARel.mono {ρ ρ' : Rho} (h : ρ.le ρ') {a : Atom} {x : Value} (r : ARel ρ a x) : ARel ρ' a x := by
  cases a <;> simp only [ARel] at r ⊢
  case ptr b off => obtain ⟨a, h1, h2⟩ := r; exact ⟨a, h1, h2.mono h⟩
  case slice b off len cap => obtain ⟨a, h1, h2⟩ := r; exact ⟨a, h1, h2.mono h⟩
  case oslice i off len z => obtain ⟨L, c, o, h1, h2⟩ := r; exact ⟨L, c, o, h _ _ h1, h2⟩
  case map i => obtain ⟨L, h1, h2⟩ := r; exact ⟨L, h _ _ h1, h2⟩
  case chan i => obtain ⟨L, h1, h2⟩ := r; exact ⟨L, h _ _ h1, h2⟩
  case yield i => obtain ⟨L, h1, h2⟩ := r; exact ⟨L, h _ _ h1, h2⟩
  case iter i => obtain ⟨L, h1, h2⟩ := r; exact ⟨L, h _ _ h1, h2⟩
  all_goals exact r

mutual
theorem VRel.mono {ρ ρ' : Rho} (h : ρ.le ρ') : ∀ (v : AV) (x : Value), VRel ρ v x → VRel ρ' v x
  | .int _ _, _, r => r
  | .bool _, _, r => r
  | .at _, _, r => ARel.mono h r
  | .agg cs, _, r => let ⟨l, h1, h2⟩ := r; ⟨l, h1, VRelL.mono h cs l h2⟩
  | .tup cs, _, r => let ⟨l, h1, h2⟩ := r; ⟨l, h1, VRelL.mono h cs l h2⟩
  | .fn _ a b, _, r => let ⟨l, m, h1, h2, h3⟩ := r; ⟨l, m, h1, VRelL.mono h a l h2, VRelL.mono h b m h3⟩
  | .iface _ v, _, r => let ⟨y, h1, h2⟩ := r; ⟨y, h1, VRel.mono h v y h2⟩
theorem VRelL.mono {ρ ρ' : Rho} (h : ρ.le ρ') : ∀ (vs : List AV) (l : List Value), VRelL ρ vs l → VRelL ρ' vs l
  | [], _, r => r
  | v :: vs, _, r => let ⟨x, xs, h1, h2, h3⟩ := r; ⟨x, xs, h1, VRel.mono h v x h2, VRelL.mono h vs xs h3⟩
end

theorem VRelL.length {ρ : Rho} : ∀ {vs : List AV} {l : List Value}, VRelL ρ vs l → l.length = vs.length
  | [], _, r => by rw [r]; rfl
  | _ :: _, _, r => by obtain ⟨x, xs, rfl, _, h3⟩ := r; simp [VRelL.length h3]
theorem VRelL.get {ρ : Rho} : ∀ {vs : List AV} {l : List Value} {i : Nat} {v : AV}, VRelL ρ vs l → vs[i]? = some v → ∃ x, l[i]? = some x ∧ VRel ρ v x
  | [], _, _, _, _, h => by simp at h
  | v :: vs, _, 0, _, r, h => by obtain ⟨x, xs, rfl, h2, h3⟩ := r; simp at h; subst h; exact ⟨x, rfl, h2⟩
  | v :: vs, _, i + 1, _, r, h => by obtain ⟨x, xs, rfl, h2, h3⟩ := r; simp at h; simpa using VRelL.get h3 h
theorem VRelL.append {ρ : Rho} : ∀ {vs ws : List AV} {l m : List Value}, VRelL ρ vs l → VRelL ρ ws m → VRelL ρ (vs ++ ws) (l ++ m)
  | [], _, _, _, r, h => by rw [r]; exact h
  | _ :: _, _, _, _, r, h => by obtain ⟨x, xs, rfl, h2, h3⟩ := r; exact ⟨x, xs ++ _, rfl, h2, VRelL.append h3 h⟩
theorem VRelL.take {ρ : Rho} : ∀ {vs : List AV} {l : List Value} (n : Nat), VRelL ρ vs l → VRelL ρ (vs.take n) (l.take n)
  | [], _, n, r => by rw [r]; simp [VRelL]
  | _ :: _, _, 0, _ => by simp [VRelL]
  | _ :: _, _, n + 1, r => by obtain ⟨x, xs, rfl, h2, h3⟩ := r; exact ⟨x, xs.take n, rfl, h2, VRelL.take n h3⟩
theorem VRelL.drop {ρ : Rho} : ∀ {vs : List AV} {l : List Value} (n : Nat), VRelL ρ vs l → VRelL ρ (vs.drop n) (l.drop n)
  | [], _, n, r => by rw [r]; simp [VRelL]
  | _ :: _, _, 0, r => r
  | _ :: _, _, n + 1, r => by obtain ⟨x, xs, rfl, h2, h3⟩ := r; exact VRelL.drop n h3
theorem VRelL.of_get {ρ : Rho} : ∀ {vs : List AV} {l : List Value}, l.length = vs.length → (∀ (i : Nat) (v : AV), vs[i]? = some v → ∃ x : Value, l[i]? = some x ∧ VRel ρ v x) → VRelL ρ vs l
  | [], l, hl, _ => by cases l <;> simp_all [VRelL]
  | v :: vs, l, hl, h => by
    cases l with
    | nil => simp at hl
    | cons x l =>
      obtain ⟨y, h1, h2⟩ := h 0 v rfl
      simp at h1; subst h1
      exact ⟨x, l, rfl, h2, VRelL.of_get (by simpa using hl) fun i u hu => by simpa using h (i + 1) u (by simpa using hu)⟩

/-- The cells of a value. -/
theorem VRel.cells {ρ : Rho} {v : AV} {x : Value} (h : VRel ρ v x) : ∃ l : List Value, x.cells = l.toArray ∧ VRelL ρ v.cells l := by
  cases v with
  | agg cs => obtain ⟨l, rfl, h2⟩ := h; exact ⟨l, rfl, h2⟩
  | int k n => subst h; exact ⟨[_], rfl, _, _, rfl, rfl, rfl⟩
  | bool b => subst h; exact ⟨[_], rfl, _, _, rfl, rfl, rfl⟩
  | tup cs => obtain ⟨l, rfl, h2⟩ := h; exact ⟨[_], rfl, _, _, rfl, ⟨l, rfl, h2⟩, rfl⟩
  | fn f a b => obtain ⟨l, m, rfl, h2⟩ := h; exact ⟨[_], rfl, _, _, rfl, ⟨l, m, rfl, h2⟩, rfl⟩
  | iface t v => obtain ⟨l, rfl, h2⟩ := h; exact ⟨[_], rfl, _, _, rfl, ⟨l, rfl, h2⟩, rfl⟩
  | «at» a =>
    refine ⟨[x], ?_, x, [], rfl, h, rfl⟩
    cases a <;> simp only [VRel, ARel] at h
    case str => obtain ⟨b, rfl, _⟩ := h; rfl
    case ptr => obtain ⟨b, rfl, _⟩ := h; rfl
    case slice => obtain ⟨b, rfl, _⟩ := h; rfl
    case oslice => obtain ⟨L, c, o, _, _, rfl, _⟩ := h; rfl
    case map => obtain ⟨b, _, rfl⟩ := h; rfl
    case chan => obtain ⟨b, _, rfl⟩ := h; rfl
    case yield => obtain ⟨b, _, rfl⟩ := h; rfl
    case iter => obtain ⟨b, _, rfl⟩ := h; rfl
    case old => obtain ⟨rfl, h1⟩ := h; cases x <;> first | rfl | cases h1
    all_goals (subst h; rfl)

/-! ### cells -/
theorem blt_iff {a b : Nat} : Nat.blt a b = true ↔ a < b := by unfold Nat.blt; rw [Nat.ble_eq]; exact Iff.rfl
theorem ble_iff {a b : Nat} : Nat.ble a b = true ↔ a ≤ b := by rw [Nat.ble_eq]
theorem beq_iff {a b : Nat} : Nat.beq a b = true ↔ a = b := by rw [Nat.beq_eq]

theorem putAll_get : ∀ (vs : List AV) (i j : Nat) (tr : Tr AV), i + vs.length ≤ 1073741824 → (putAll i vs tr).get j = if i ≤ j ∧ j < i + vs.length then vs[j - i]? else tr.get j := by
  intro vs
  induction vs with
  | nil => intro i j tr _; simp [putAll]; intro h h'; omega
  | cons v vs ih =>
    intro i j tr h
    simp only [putAll, List.length_cons] at *
    rw [ih _ _ _ (by omega), Tr.get_put _ _ _ _ _ (by unfold dep; omega)]
    by_cases h1 : i + 1 ≤ j ∧ j < i + 1 + vs.length
    · rw [if_pos h1, if_pos (by omega), show j - i = (j - (i + 1)) + 1 by omega]; rfl
    · rw [if_neg h1]
      by_cases h2 : j = i
      · subst h2; rw [if_pos rfl, if_pos (by omega)]; simp
      · rw [if_neg h2, if_neg (by omega)]

theorem Cells.get_lt {c : Cells} {j : Nat} {v : AV} (h : c.get j = .yes v) : j < c.size := by
  cases c with
  | l xs =>
    simp only [Cells.get, nthL_eq] at h
    split at h
    · rename_i u hu; exact (List.getElem?_eq_some_iff.1 hu).1
    · cases h
  | t n tr d =>
    simp only [Cells.get] at h
    cases hb : Nat.blt j n with
    | true => exact blt_iff.1 hb
    | false => rw [hb] at h; cases h

theorem getAll_eq (tr : Tr AV) (d : AV) : ∀ (k i : Nat), (getAll tr d i k).length = k ∧ ∀ j, j < k → (getAll tr d i k)[j]? = some ((tr.get (i + j)).getD d) := by
  intro k
  induction k with
  | zero => intro i; exact ⟨rfl, fun j h => absurd h (Nat.not_lt_zero _)⟩
  | succ k ih =>
    intro i
    simp only [getAll, forceN_eq]
    refine ⟨by simp [(ih (i + 1)).1], fun j hj => ?_⟩
    cases j with
    | zero => rfl
    | succ j =>
      rw [List.getElem?_cons_succ, (ih (i + 1)).2 j (by omega)]
      congr 3; omega

theorem Cells.getN_yes {c : Cells} {i k : Nat} {vs : List AV} (h : c.getN i k = .yes vs) : vs.length = k ∧ ∀ j, j < k → ∃ v, vs[j]? = some v ∧ c.get (i + j) = .yes v := by
  cases c with
  | l xs =>
    simp only [Cells.getN, dropL_eq] at h
    obtain ⟨rfl, hl⟩ := takeL_yes _ _ _ h
    simp only [List.length_drop] at hl
    refine ⟨by simp; omega, fun j hj => ?_⟩
    have hx : i + j < xs.length := by omega
    refine ⟨xs[i + j], by simp [List.getElem?_take, hj, hx], by simp [Cells.get, nthL_eq, hx]⟩
  | t n tr d =>
    simp only [Cells.getN] at h
    cases hb : Nat.ble (i + k) n with
    | false => rw [hb] at h; cases h
    | true =>
      rw [hb] at h
      injection h with h
      subst h
      have hb := ble_iff.1 hb
      refine ⟨(getAll_eq tr d k i).1, fun j hj => ⟨_, (getAll_eq tr d k i).2 j hj, ?_⟩⟩
      simp only [Cells.get, blt_iff.2 (show i + j < n by omega), cond_true]

theorem Cells.putN_yes {c c' : Cells} {i : Nat} {vs : List AV} (h : c.putN i vs = .yes c') :
    (∀ j, c'.get j = if i ≤ j ∧ j < i + vs.length then (match vs[j - i]? with | some v => .yes v | none => .no) else c.get j) ∧ c'.size = c.size ∧ (vs ≠ [] → i + vs.length ≤ c.size) := by
  cases c with
  | l xs =>
    simp only [Cells.putN] at h
    cases hp : putL i vs xs with
    | no => rw [hp] at h; cases h
    | yes ys =>
      rw [hp] at h
      injection h with h
      subst h
      obtain ⟨a, b, c⟩ := putL_yes _ _ _ _ hp
      refine ⟨fun j => ?_, a, b⟩
      simp only [Cells.get, nthL_eq, c j]
      by_cases hj : i ≤ j ∧ j < i + vs.length
      · rw [if_pos hj, if_pos hj]; rfl
      · rw [if_neg hj, if_neg hj]
  | t n tr d =>
    simp only [Cells.putN] at h
    cases hb : (Nat.ble (i + vs.length) n && Nat.ble n 1073741824) with
    | false => rw [hb] at h; cases h
    | true =>
      rw [hb] at h
      injection h with h
      subst h
      rw [Bool.and_eq_true] at hb
      have h1 := ble_iff.1 hb.1
      have h2 := ble_iff.1 hb.2
      refine ⟨fun j => ?_, rfl, fun _ => h1⟩
      simp only [Cells.get]
      rw [putAll_get vs i j tr (by omega)]
      by_cases hj : i ≤ j ∧ j < i + vs.length
      · rw [if_pos hj, if_pos hj, blt_iff.2 (show j < n by omega)]
        have hx : j - i < vs.length := by omega
        simp [hx]
      · rw [if_neg hj, if_neg hj]

theorem Cells.ofL_get {xs : List AV} {j : Nat} {v : AV} (h : (Cells.ofL xs).get j = .yes v) : xs[j]? = some v := by
  unfold Cells.ofL at h
  simp only [forceN_eq] at h
  cases hb : Nat.ble xs.length 48 with
  | true =>
    rw [hb] at h
    simp only [cond_true, Cells.get, nthL_eq] at h
    split at h
    · rename_i u hu; injection h with h; rw [hu, h]
    · cases h
  | false =>
    rw [hb] at h
    simp only [cond_false] at h
    cases hc : Nat.ble xs.length 1073741824 with
    | false => rw [hc] at h; simp [Cells.get, nthL_eq] at h
    | true =>
      rw [hc] at h
      have hc := ble_iff.1 hc
      simp only [cond_true, Cells.get] at h
      cases hj : Nat.blt j xs.length with
      | false => rw [hj] at h; cases h
      | true =>
        have hj' := blt_iff.1 hj
        rw [hj, cond_true, putAll_get xs 0 j _ (by omega), if_pos (by omega)] at h
        simp [hj'] at h ⊢
        exact h

theorem Cells.ofL_size (xs : List AV) : (Cells.ofL xs).size ≤ xs.length := by
  unfold Cells.ofL
  simp only [forceN_eq]
  cases Nat.ble xs.length 48 with
  | true => exact Nat.le_refl _
  | false => cases Nat.ble xs.length 1073741824 with
    | true => exact Nat.le_refl _
    | false => exact Nat.zero_le _

theorem Cells.pushN_get {c : Cells} {vs : List AV} {j : Nat} {v : AV} (h : (c.pushN vs).get j = .yes v) :
    (j < c.size ∧ c.get j = .yes v) ∨ (c.size ≤ j ∧ vs[j - c.size]? = some v) := by
  cases c with
  | l xs =>
    have := Cells.ofL_get h
    rw [List.getElem?_append] at this
    split at this
    · rename_i hj; exact .inl ⟨hj, by simp only [Cells.get, nthL_eq, this]⟩
    · rename_i hj; exact .inr ⟨by simpa [Cells.size] using hj, this⟩
  | t n tr d =>
    simp only [Cells.pushN, forceN_eq] at h
    cases hc : Nat.ble (n + vs.length) 1073741824 with
    | false => rw [hc] at h; simp [Cells.get, nthL_eq] at h
    | true =>
      rw [hc] at h
      have hc := ble_iff.1 hc
      simp only [cond_true, Cells.get] at h
      cases hj : Nat.blt j (n + vs.length) with
      | false => rw [hj] at h; cases h
      | true =>
        have hj' := blt_iff.1 hj
        rw [hj, cond_true, putAll_get vs n j _ hc] at h
        by_cases hn : n ≤ j ∧ j < n + vs.length
        · rw [if_pos hn] at h
          have hx : j - n < vs.length := by omega
          refine .inr ⟨hn.1, ?_⟩
          simp [hx] at h
          simp [Cells.size, hx, h]
        · rw [if_neg hn] at h
          refine .inl ⟨by show j < n; omega, ?_⟩
          simp only [Cells.get, blt_iff.2 (show j < n by omega), cond_true]
          exact h

theorem repL_length (zs : List AV) : ∀ n, (repL zs n).length = n * zs.length
  | 0 => by simp [repL]
  | n + 1 => by simp [repL, repL_length zs n, Nat.succ_mul]; omega
theorem repL_get (zs : List AV) : ∀ (n j : Nat), j < n * zs.length → (repL zs n)[j]? = zs[j % zs.length]?
  | 0, j, h => by simp at h
  | n + 1, j, h => by
    simp only [repL]
    rw [List.getElem?_append]
    split
    · rename_i hj; rw [Nat.mod_eq_of_lt hj]
    · rename_i hj
      have hz : zs.length ≤ j := Nat.le_of_not_lt hj
      rw [repL_get zs n (j - zs.length) (by rw [Nat.succ_mul] at h; omega), ← Nat.mod_eq_sub_mod hz]

theorem Cells.rep_get {n : Nat} {zs : List AV} {j : Nat} {v : AV} (h : (Cells.rep n zs).get j = .yes v) : (repL zs n)[j]? = some v := by
  unfold Cells.rep at h
  split at h
  · rename_i z
    cases hb : Nat.ble n 48 with
    | true =>
      rw [hb] at h
      simp only [cond_true, Cells.get, nthL_eq] at h
      split at h
      · rename_i u hu; injection h with h; rw [hu, h]
      · cases h
    | false =>
      rw [hb] at h
      simp only [cond_false, Cells.get, Tr.get_e] at h
      cases hj : Nat.blt j n with
      | false => rw [hj] at h; cases h
      | true =>
        rw [hj] at h
        injection h with h
        rw [repL_get [z] n j (by have := blt_iff.1 hj; simpa using this)]
        simp [Nat.mod_one] at h ⊢
        exact h
  · exact Cells.ofL_get h

/-! ### objects -/
/-- Cells that stand for cells, from a place on. -/
def CRel (ρ : Rho) (c : Cells) (sh : Nat) (cs : Array Value) : Prop := ∀ i v, c.get i = .yes v → ∃ x : Value, cs[i + sh]? = some x ∧ VRel ρ v x

theorem CRel.mono {ρ ρ' : Rho} (h : ρ.le ρ') {c : Cells} {sh : Nat} {cs : Array Value} (r : CRel ρ c sh cs) : CRel ρ' c sh cs :=
  fun i v hv => let ⟨x, h1, h2⟩ := r i v hv; ⟨x, h1, h2.mono h⟩

def ERel (ρ : Rho) : List AEntry → List MapEntry → Prop
  | [], l => l = []
  | e :: es, l => ∃ k v rest, l = ⟨k, v, e.born⟩ :: rest ∧ VRel ρ e.key k ∧ VRel ρ e.val v ∧ ERel ρ es rest
theorem ERel.mono {ρ ρ' : Rho} (h : ρ.le ρ') : ∀ {es : List AEntry} {l : List MapEntry}, ERel ρ es l → ERel ρ' es l
  | [], _, r => r
  | _ :: _, _, r => let ⟨k, v, rest, h1, h2, h3, h4⟩ := r; ⟨k, v, rest, h1, h2.mono h, h3.mono h, ERel.mono h h4⟩

/-- No cell of a row is frozen. -/
def Free (n : Nat) (fz : Nat × Nat) : Prop := fz.1 = fz.2 ∨ n ≤ fz.1

def TRel (ρ : Rho) (t : TT) (tmps : Array Value) : Prop := ∀ i, i < 256 → VRel ρ (TT.get (pth i) t) (tmps.getD i Go.undef)
theorem TRel.mono {ρ ρ' : Rho} (h : ρ.le ρ') {t : TT} {tmps : Array Value} (r : TRel ρ t tmps) : TRel ρ' t tmps := fun i hi => (r i hi).mono h

def Jmp.code : Jmp → Code
  | .ret => .ret
  | .ex i => .exit i

def LSt.st : LSt → LoopState
  | .ready => .ready
  | .busy => .busy
  | .done => .done
  | .exhausted => .exhausted

def AObj.isRo : AObj → Bool
  | .ro _ => true
  | _ => false

def ORel (ρ : Rho) : AObj → Loc → Obj → Prop
  | .cells c, L, obj => ∃ (cs : Array Value) (t : TypeId) (fz : Nat × Nat), obj = .cells cs t fz ∧ Free cs.size fz ∧ CRel ρ c L.sh cs
  | .open_ z c, L, obj => ∃ (cs : Array Value) (t : TypeId) (fz : Nat × Nat), obj = .cells cs t fz ∧ Free cs.size fz ∧ CRel ρ c L.sh cs ∧ cs.size = L.full ∧ L.esz = z
  | .ro c, L, obj => ∃ (cs : Array Value) (t : TypeId) (fz : Nat × Nat), obj = .cells cs t fz ∧ CRel ρ c L.sh cs
  | .map es k, _, obj => ∃ l : List MapEntry, obj = .map l.toArray k ∧ ERel ρ es l
  | .loop s p nt t ps assign body dfd, _, obj => ∃ (fn : FuncId) (tmps : Array Value) (D : Loc),
      obj = .loop { state := s.st, pending := p.map Jmp.code, fn, tmps, params := ps.toArray, assign, body, defers := D.blk } ∧ ρ dfd = some D ∧ TRel ρ t tmps ∧ nt ≤ tmps.size ∧
      (∀ p ∈ ps, p < nt ∧ p < 256)
  | .dfd b, _, obj => obj = .deferred (if b then some [] else none)
  | .chan c, _, obj => obj = .chan 0 #[] c 0 0 false
  | .siter s k, _, obj => ∃ b : ByteArray, obj = .stringIter b k ∧ b.data.toList.map UInt8.toNat = s
  | .miter m since seen last, _, obj => (match m with
      | none => obj = .mapIter none since seen.toArray last
      | some m => ∃ M, ρ m = some M ∧ obj = .mapIter (some M.blk) since seen.toArray last)

theorem ORel.mono {ρ ρ' : Rho} (h : ρ.le ρ') {o : AObj} {L : Loc} {obj : Obj} (r : ORel ρ o L obj) : ORel ρ' o L obj := by
  cases o <;> simp only [ORel] at r ⊢
  case cells c => obtain ⟨cs, t, fz, h1, h2, h3⟩ := r; exact ⟨cs, t, fz, h1, h2, h3.mono h⟩
  case open_ z c => obtain ⟨cs, t, fz, h1, h2, h3, h4⟩ := r; exact ⟨cs, t, fz, h1, h2, h3.mono h, h4⟩
  case ro c => obtain ⟨cs, t, fz, h1, h3⟩ := r; exact ⟨cs, t, fz, h1, h3.mono h⟩
  case map es k => obtain ⟨l, h1, h2⟩ := r; exact ⟨l, h1, h2.mono h⟩
  case loop => obtain ⟨fn, tmps, D, h1, h2, h3, h4⟩ := r; exact ⟨fn, tmps, D, h1, h _ _ h2, h3.mono h, h4⟩
  case miter m since seen last =>
    cases m with
    | none => exact r
    | some m => obtain ⟨M, h1, h2⟩ := r; exact ⟨M, h _ _ h1, h2⟩
  all_goals exact r

/-! ### the heap -/
structure HRel (W : World) (om : OM) (ρ : Rho) (h : Hp) (w : World) : Prop where
  objs : ∀ i o, h.get i = some o → ∃ L obj, ρ i = some L ∧ w.heap[L.blk]? = some obj ∧ ORel ρ o L obj ∧ (o.isRo = false → W.heap.size ≤ L.blk)
  inj : ∀ i j o o' L L', h.get i = some o → h.get j = some o' → ρ i = some L → ρ j = some L' → L.blk = L'.blk → i = j
  fresh : ∀ i, h.nx ≤ i → ρ i = none
  old : ∀ i, i < W.heap.size → w.heap[i]? = W.heap[i]?
  size : W.heap.size ≤ w.heap.size
  os : w.os = W.os
  output : w.output = W.output
  tape : w.tape = W.tape
  om : ∀ b i v, om b i = .yes v → ∃ x, W.cell? ⟨b, i, none⟩ = some x ∧ VRel ρ v x

/-- From one heap that stands for memory to another. -/
structure Goes (W : World) (om : OM) (ρ : Rho) (h : Hp) (w : World) (ρ' : Rho) (h' : Hp) (w' : World) : Prop where
  ext : ρ.le ρ'
  rel : HRel W om ρ' h' w'
  frm : ∀ B, B < w.heap.size → (∀ i o L, h.get i = some o → ρ i = some L → L.blk ≠ B) → w'.heap[B]? = w.heap[B]?
  size : w.heap.size ≤ w'.heap.size
  own : ∀ i o L, h'.get i = some o → ρ' i = some L → w.heap.size ≤ L.blk ∨ ∃ j o' L', h.get j = some o' ∧ ρ j = some L' ∧ L'.blk = L.blk
  nx : h.nx ≤ h'.nx
  keep : ∀ i, i < h.nx → ρ' i = ρ i

section
variable {W : World} {om : OM} {ρ ρ' ρ'' : Rho} {h h' h'' : Hp} {w w' w'' : World}

theorem HRel.lt (r : HRel W om ρ h w) {i : Nat} {o : AObj} {L : Loc} (hg : h.get i = some o) (hL : ρ i = some L) : L.blk < w.heap.size := by
  obtain ⟨L', obj, h1, h2, _⟩ := r.objs i o hg
  rw [hL] at h1
  injection h1 with h1
  subst h1
  exact (Array.getElem?_eq_some_iff.1 h2).1

theorem HRel.lt_nx (r : HRel W om ρ h w) {i : Nat} {L : Loc} (hL : ρ i = some L) : i < h.nx := by
  rcases Nat.lt_or_ge i h.nx with a | a
  · exact a
  · rw [r.fresh i a] at hL; cases hL

theorem Goes.refl (r : HRel W om ρ h w) : Goes W om ρ h w ρ h w where
  ext := Rho.le_refl _
  rel := r
  frm := fun _ _ _ => rfl
  size := Nat.le_refl _
  own := fun i o L hi hL => .inr ⟨i, o, L, hi, hL, rfl⟩
  nx := Nat.le_refl _
  keep := fun _ _ => rfl

theorem Goes.trans (a : Goes W om ρ h w ρ' h' w') (b : Goes W om ρ' h' w' ρ'' h'' w'') : Goes W om ρ h w ρ'' h'' w'' where
  ext := Rho.le_trans a.ext b.ext
  rel := b.rel
  frm := fun B hB hn => by
    rw [b.frm B (Nat.lt_of_lt_of_le hB a.size) (fun i o L hi hL e => ?_), a.frm B hB hn]
    rcases a.own i o L hi hL with c | ⟨j, o', L', hj, hL', e'⟩
    · omega
    · exact hn j o' L' hj hL' (e'.trans e)
  size := Nat.le_trans a.size b.size
  own := fun i o L hi hL => by
    rcases b.own i o L hi hL with c | ⟨j, o', L', hj, hL', e'⟩
    · exact .inl (Nat.le_trans a.size c)
    · rcases a.own j o' L' hj hL' with c | ⟨k, o2, L2, hk, hL2, e2⟩
      · exact .inl (e' ▸ c)
      · exact .inr ⟨k, o2, L2, hk, hL2, e2.trans e'⟩
  nx := Nat.le_trans a.nx b.nx
  keep := fun i hi => by rw [b.keep i (Nat.lt_of_lt_of_le hi a.nx), a.keep i hi]

theorem Rho.le_set {ρ : Rho} {i : Nat} (hi : ρ i = none) (L : Loc) : ρ.le (fun j => if j = i then some L else ρ j) := fun j M hM => by
  have : j ≠ i := fun e => by rw [e, hi] at hM; cases hM
  simp only [this, if_false]; exact hM

/-- World and heap but for the count of draws. -/
theorem HRel.drew (r : HRel W om ρ h w) (n : Nat) : HRel W om ρ h { w with drawn := n } :=
  ⟨r.objs, r.inj, r.fresh, r.old, r.size, r.os, r.output, r.tape, r.om⟩
theorem Goes.drew (r : HRel W om ρ h w) (n : Nat) : Goes W om ρ h w ρ h { w with drawn := n } where
  ext := Rho.le_refl _
  rel := r.drew n
  frm := fun _ _ _ => rfl
  size := Nat.le_refl _
  own := fun i o L hi hL => .inr ⟨i, o, L, hi, hL, rfl⟩
  nx := Nat.le_refl _
  keep := fun _ _ => rfl

theorem Hp.get_new_le {h : Hp} {o u : AObj} {j : Nat} (e : (h.new o).get j = some u) : (j = h.nx ∧ u = o) ∨ (j ≠ h.nx ∧ h.get j = some u) := by
  cases h with
  | mk tr nx =>
    simp only [Hp.new, forceN_eq, Hp.get] at e
    rcases Tr.get_put_le _ _ _ _ _ _ e with ⟨a, b⟩ | ⟨a, b⟩
    · injection b with b; exact .inl ⟨a, b.symm⟩
    · exact .inr ⟨a, b⟩
theorem Hp.get_set_le {h : Hp} {o u : AObj} {i j : Nat} (e : (h.set i o).get j = some u) : (j = i ∧ u = o) ∨ (j ≠ i ∧ h.get j = some u) := by
  cases h with
  | mk tr nx =>
    simp only [Hp.set, Hp.get] at e
    rcases Tr.get_put_le _ _ _ _ _ _ e with ⟨a, b⟩ | ⟨a, b⟩
    · injection b with b; exact .inl ⟨a, b.symm⟩
    · exact .inr ⟨a, b⟩
theorem Hp.get_del_le {h : Hp} {u : AObj} {i j : Nat} (e : (h.del i).get j = some u) : j ≠ i ∧ h.get j = some u := by
  cases h with
  | mk tr nx =>
    simp only [Hp.del, Hp.get] at e
    rcases Tr.get_put_le _ _ _ _ _ _ e with ⟨a, b⟩ | ⟨a, b⟩
    · cases b
    · exact ⟨a, b⟩
@[simp] theorem Hp.nx_new (h : Hp) (o : AObj) : (h.new o).nx = h.nx + 1 := by cases h; simp only [Hp.new, forceN_eq]
@[simp] theorem Hp.nx_set (h : Hp) (i : Nat) (o : AObj) : (h.set i o).nx = h.nx := by cases h; rfl
@[simp] theorem Hp.nx_del (h : Hp) (i : Nat) : (h.del i).nx = h.nx := by cases h; rfl

/-- A new object at a place of one's own. 'h1': the heap with it (and none that was not there), its mark at 'i'. -/
theorem HRel.put_new {i : Nat} {o : AObj} {obj : Obj} {L : Loc} (r : HRel W om ρ h w) (hi : ρ i = none) (hnx : h.nx ≤ h'.nx) (hin : i < h'.nx)
    (hget : ∀ j u, h'.get j = some u → (j = i ∧ u = o) ∨ (j ≠ i ∧ h.get j = some u))
    (hL : L.blk = w.heap.size) (ho : ORel (fun j => if j = i then some L else ρ j) o L obj) :
    HRel W om (fun j => if j = i then some L else ρ j) h' (w.alloc obj) := by
  have le := Rho.le_set hi L
  refine ⟨fun j u hj => ?_, fun j k u v M N hj hk hM hN e => ?_, fun j hj => ?_, fun j hj => ?_, ?_, r.os, r.output, r.tape, fun b j v hv => ?_⟩
  · rcases hget j u hj with ⟨rfl, rfl⟩ | ⟨hne, hj'⟩
    · exact ⟨L, obj, by simp, by rw [hL]; exact World.alloc_heap_new w obj, ho, fun _ => by rw [hL]; exact r.size⟩
    · obtain ⟨M, ob, h1, h2, h3, h4⟩ := r.objs j u hj'
      refine ⟨M, ob, by simp [hne, h1], ?_, h3.mono le, h4⟩
      have := r.lt hj' h1
      show (w.heap.push obj)[M.blk]? = _
      rw [Array.getElem?_push_lt this, ← Array.getElem?_eq_getElem this]
      exact h2
  · rcases hget j u hj with ⟨rfl, rfl⟩ | ⟨hne, hj'⟩ <;> rcases hget k v hk with ⟨rfl, rfl⟩ | ⟨hne', hk'⟩
    · rfl
    · simp only [if_true, hne', if_false] at hM hN
      injection hM with hM
      subst hM
      have := r.lt hk' hN
      omega
    · simp only [if_true, hne, if_false] at hM hN
      injection hN with hN
      subst hN
      have := r.lt hj' hM
      omega
    · simp only [hne, hne', if_false] at hM hN
      exact r.inj j k u v M N hj' hk' hM hN e
  · have : j ≠ i := by omega
    simp only [this, if_false]
    exact r.fresh j (by omega)
  · show (w.heap.push obj)[j]? = _
    rw [Array.getElem?_push_lt (Nat.lt_of_lt_of_le hj r.size), ← Array.getElem?_eq_getElem]
    exact r.old j hj
  · have := r.size; simp; omega
  · obtain ⟨x, h1, h2⟩ := r.om b j v hv
    exact ⟨x, h1, h2.mono le⟩

theorem Goes.put_new {i : Nat} {o : AObj} {obj : Obj} {L : Loc} (r : HRel W om ρ h w) (hi : ρ i = none) (hle : h.nx ≤ i) (hnx : h.nx ≤ h'.nx) (hin : i < h'.nx)
    (hget : ∀ j u, h'.get j = some u → (j = i ∧ u = o) ∨ (j ≠ i ∧ h.get j = some u))
    (hL : L.blk = w.heap.size) (ho : ORel (fun j => if j = i then some L else ρ j) o L obj) :
    Goes W om ρ h w (fun j => if j = i then some L else ρ j) h' (w.alloc obj) where
  ext := Rho.le_set hi L
  rel := r.put_new hi hnx hin hget hL ho
  frm := fun B hB _ => by
    show (w.heap.push obj)[B]? = _
    rw [Array.getElem?_push_lt hB, ← Array.getElem?_eq_getElem]
  size := by simp
  own := fun j u M hj hM => by
    rcases hget j u hj with ⟨rfl, rfl⟩ | ⟨hne, hj'⟩
    · simp only [if_true] at hM
      injection hM with hM
      subst hM
      exact .inl (by omega)
    · simp only [hne, if_false] at hM
      exact .inr ⟨j, u, M, hj', hM, rfl⟩
  nx := hnx
  keep := fun j hj => by
    have : j ≠ i := by omega
    simp only [this, if_false]

theorem Goes.new {o : AObj} {obj : Obj} (L : Loc) (r : HRel W om ρ h w) (hL : L.blk = w.heap.size) (ho : ∀ ρ', ρ.le ρ' → ρ' h.nx = some L → ORel ρ' o L obj) :
    ∃ ρ', ρ' h.nx = some L ∧ Goes W om ρ h w ρ' (h.new o) (w.alloc obj) :=
  ⟨_, by simp, Goes.put_new r (r.fresh _ (Nat.le_refl _)) (Nat.le_refl _) (by simp) (by simp) (fun j u hj => Hp.get_new_le hj) hL (ho _ (Rho.le_set (r.fresh _ (Nat.le_refl _)) L) (by simp))⟩

/-- An object turned. -/
theorem Goes.set {i : Nat} {o u : AObj} {obj : Obj} {L : Loc} (r : HRel W om ρ h w) (hi : h.get i = some u) (hL : ρ i = some L) (hro : u.isRo = false) (ho : ORel ρ o L obj) :
    Goes W om ρ h w ρ (h.set i o) { w with heap := w.heap.setIfInBounds L.blk obj } where
  ext := Rho.le_refl _
  rel := by
    have hlt := r.lt hi hL
    refine ⟨fun j v hj => ?_, fun j k v v' M N hj hk hM hN e => ?_, fun j hj => r.fresh j (by simpa using hj), fun j hj => ?_, by simpa using r.size, r.os, r.output, r.tape, r.om⟩
    · rcases Hp.get_set_le hj with ⟨rfl, rfl⟩ | ⟨hne, hj'⟩
      · obtain ⟨L', ob, h1, h2, h3, h4⟩ := r.objs _ u hi
        rw [hL] at h1; injection h1 with h1; subst h1
        exact ⟨L, obj, hL, by simp [hlt], ho, fun _ => h4 hro⟩
      · obtain ⟨M, ob, h1, h2, h3, h4⟩ := r.objs j v hj'
        refine ⟨M, ob, h1, ?_, h3, h4⟩
        have : L.blk ≠ M.blk := fun e => hne (r.inj j i v u M L hj' hi h1 hL e.symm)
        simp only []
        rw [Array.getElem?_setIfInBounds_ne this]
        exact h2
    · have key : ∀ j v, (h.set i o).get j = some v → ∃ v', h.get j = some v' := fun j v hj => by
        rcases Hp.get_set_le hj with ⟨rfl, rfl⟩ | ⟨hne, hj'⟩
        · exact ⟨u, hi⟩
        · exact ⟨v, hj'⟩
      obtain ⟨a, ha⟩ := key j v hj
      obtain ⟨b, hb⟩ := key k v' hk
      exact r.inj j k a b M N ha hb hM hN e
    · obtain ⟨L', ob, h1, h2, h3, h4⟩ := r.objs _ u hi
      rw [hL] at h1; injection h1 with h1; subst h1
      have := h4 hro
      simp only []
      rw [Array.getElem?_setIfInBounds_ne (by omega)]
      exact r.old j hj
  frm := fun B hB hn => by
    simp only []
    rw [Array.getElem?_setIfInBounds_ne (hn i u L hi hL)]
  size := by simp
  own := fun j v M hj hM => by
    rcases Hp.get_set_le hj with ⟨rfl, rfl⟩ | ⟨hne, hj'⟩
    · exact .inr ⟨j, u, M, hi, hM, rfl⟩
    · exact .inr ⟨j, v, M, hj', hM, rfl⟩
  nx := by simp
  keep := fun _ _ => rfl

/-- An object's memory turned, its words the same. -/
theorem Goes.turn {i : Nat} {o : AObj} {obj : Obj} {L : Loc} (r : HRel W om ρ h w) (hi : h.get i = some o) (hL : ρ i = some L) (hro : o.isRo = false) (ho : ORel ρ o L obj) :
    Goes W om ρ h w ρ h { w with heap := w.heap.setIfInBounds L.blk obj } where
  ext := Rho.le_refl _
  rel := by
    have hlt := r.lt hi hL
    refine ⟨fun j v hj => ?_, r.inj, r.fresh, fun j hj => ?_, by simpa using r.size, r.os, r.output, r.tape, r.om⟩
    · obtain ⟨M, ob, h1, h2, h3, h4⟩ := r.objs j v hj
      by_cases hji : j = i
      · subst hji
        rw [hL] at h1; injection h1 with h1; subst h1
        rw [hi] at hj; injection hj with hj; subst hj
        exact ⟨L, obj, hL, by simp [hlt], ho, h4⟩
      · refine ⟨M, ob, h1, ?_, h3, h4⟩
        have : L.blk ≠ M.blk := fun e => hji (r.inj j i v o M L hj hi h1 hL e.symm)
        simp only []
        rw [Array.getElem?_setIfInBounds_ne this]
        exact h2
    · obtain ⟨L', ob, h1, h2, h3, h4⟩ := r.objs _ o hi
      rw [hL] at h1; injection h1 with h1; subst h1
      have := h4 hro
      simp only []
      rw [Array.getElem?_setIfInBounds_ne (by omega)]
      exact r.old j hj
  frm := fun B hB hn => by
    simp only []
    rw [Array.getElem?_setIfInBounds_ne (hn i o L hi hL)]
  size := by simp
  own := fun j v M hj hM => .inr ⟨j, v, M, hj, hM, rfl⟩
  nx := Nat.le_refl _
  keep := fun _ _ => rfl

/-- An object's memory turned, and looked at as another object. -/
theorem Goes.moved {i : Nat} {o u : AObj} {obj : Obj} {L L2 : Loc} (r : HRel W om ρ h w) (hi : h.get i = some u) (hL : ρ i = some L) (hro : u.isRo = false) (hb : L2.blk = L.blk)
    (ho : ∀ ρ', ρ.le ρ' → ρ' h.nx = some L2 → ORel ρ' o L2 obj) :
    ∃ ρ', ρ' h.nx = some L2 ∧ Goes W om ρ h w ρ' ((h.del i).new o) { w with heap := w.heap.setIfInBounds L.blk obj } := by
  have hfr := r.fresh h.nx (Nat.le_refl _)
  have le : ρ.le (fun j => if j = h.nx then some L2 else ρ j) := Rho.le_set hfr L2
  have hlt := r.lt hi hL
  have hro' : W.heap.size ≤ L.blk := by
    obtain ⟨L', ob, h1, h2, h3, h4⟩ := r.objs _ u hi
    rw [hL] at h1; injection h1 with h1; subst h1
    exact h4 hro
  have hget : ∀ j v, ((h.del i).new o).get j = some v → (j = h.nx ∧ v = o) ∨ (j ≠ h.nx ∧ j ≠ i ∧ h.get j = some v) := fun j v hj => by
    rcases Hp.get_new_le hj with ⟨a, b⟩ | ⟨a, b⟩
    · exact .inl ⟨by simpa using a, b⟩
    · have := Hp.get_del_le b
      exact .inr ⟨by simpa using a, this.1, this.2⟩
  refine ⟨fun j => if j = h.nx then some L2 else ρ j, by simp, ?_⟩
  exact {
    ext := le
    rel := by
      refine ⟨fun j v hj => ?_, fun j k v v' M N hj hk hM hN e => ?_, fun j hj => ?_, fun j hj => ?_, by simpa using r.size, r.os, r.output, r.tape, fun b j v hv => ?_⟩
      · rcases hget j v hj with ⟨rfl, rfl⟩ | ⟨hne, hne2, hj'⟩
        · exact ⟨L2, obj, by simp, by rw [hb]; simp [hlt], ho _ le (by simp), fun _ => by rw [hb]; exact hro'⟩
        · obtain ⟨M, ob, h1, h2, h3, h4⟩ := r.objs j v hj'
          refine ⟨M, ob, by simp [hne, h1], ?_, h3.mono le, h4⟩
          have : L.blk ≠ M.blk := fun e => hne2 (r.inj j i v u M L hj' hi h1 hL e.symm)
          simp only []
          rw [Array.getElem?_setIfInBounds_ne this]
          exact h2
      · rcases hget j v hj with ⟨rfl, rfl⟩ | ⟨hne, hne2, hj'⟩ <;> rcases hget k v' hk with ⟨rfl, rfl⟩ | ⟨hne', hne2', hk'⟩
        · rfl
        · simp only [if_true, hne', if_false] at hM hN
          injection hM with hM
          subst hM
          exact absurd (r.inj k i v' u N L hk' hi hN hL (by rw [← e, hb])) hne2'
        · simp only [if_true, hne, if_false] at hM hN
          injection hN with hN
          subst hN
          exact absurd (r.inj j i v u M L hj' hi hM hL (by rw [e, hb])) hne2
        · simp only [hne, hne', if_false] at hM hN
          exact r.inj j k v v' M N hj' hk' hM hN e
      · have hj : h.nx + 1 ≤ j := by simpa using hj
        have : j ≠ h.nx := by omega
        simp only [this, if_false]
        exact r.fresh j (by omega)
      · simp only []
        rw [Array.getElem?_setIfInBounds_ne (by omega)]
        exact r.old j hj
      · obtain ⟨x, h1, h2⟩ := r.om b j v hv
        exact ⟨x, h1, h2.mono le⟩
    frm := fun B hB hn => by
      simp only []
      rw [Array.getElem?_setIfInBounds_ne (hn i u L hi hL)]
    size := by simp
    own := fun j v M hj hM => by
      rcases hget j v hj with ⟨rfl, rfl⟩ | ⟨hne, hne2, hj'⟩
      · simp only [if_true] at hM
        injection hM with hM
        subst hM
        exact .inr ⟨i, u, L, hi, hL, hb.symm⟩
      · simp only [hne, if_false] at hM
        exact .inr ⟨j, v, M, hj', hM, rfl⟩
    nx := by simp
    keep := fun j hj => by
      have : j ≠ h.nx := by omega
      simp only [this, if_false] }

/-- Fewer objects. -/
theorem Goes.sub (r : HRel W om ρ h w) (hs : ∀ i o, h'.get i = some o → h.get i = some o) (hnx : h'.nx = h.nx) : Goes W om ρ h w ρ h' w where
  ext := Rho.le_refl _
  rel := ⟨fun i o hi => r.objs i o (hs i o hi), fun i j o o' L L' hi hj => r.inj i j o o' L L' (hs i o hi) (hs j o' hj), fun i hi => r.fresh i (hnx ▸ hi), r.old, r.size, r.os, r.output, r.tape, r.om⟩
  frm := fun _ _ _ => rfl
  size := Nat.le_refl _
  own := fun i o L hi hL => .inr ⟨i, o, L, hs i o hi, hL, rfl⟩
  nx := by rw [hnx]; exact Nat.le_refl _
  keep := fun _ _ => rfl
end

end Go.Ev
