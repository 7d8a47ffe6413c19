/-
  What is proved: a region whose order is drawn does what its abstract run says, in whatever order its edges let it be done (drawOk). The condition: the program's mixed orders are followed.
-/
import Derived.Test.YtpdmljkmfdkfgaaGreatEvS
namespace Go.Ev

/-! ### what is apart -/
theorem apartD_spec {d d' : Option Nat} {l l' : List Nat} (h : apartD d l d' l' = true) : (∀ x, d = some x → x ∉ l' ∧ d' ≠ some x) ∧ (∀ x, d' = some x → x ∉ l) := by
  unfold apartD at h
  rw [Bool.and_eq_true] at h
  obtain ⟨h1, h2⟩ := h
  refine ⟨fun x hx => ?_, fun x hx => ?_⟩
  · subst hx
    simp only [Bool.and_eq_true] at h1
    refine ⟨fun hm => (by rw [hasN_iff.2 hm] at h1; cases h1.1), fun e => ?_⟩
    subst e
    have := h1.2
    simp only [beq_iff.2 (rfl : x = x), Bool.not_true] at this
    cases this
  · subst hx
    simp only [Bool.not_eq_true'] at h2
    exact fun hm => by rw [hasN_iff.2 hm] at h2; cases h2

theorem apartAll_spec {b : Nat} {d : Option Nat} {l : List Nat} : ∀ {ns : List Nm}, apartAll b d l ns = true → ∀ x ∈ ns, b.testBit x.i = false → apartD x.d x.l d l = true
  | [], _, x, hx, _ => by cases hx
  | y :: ns, h, x, hx, hb => by
    simp only [apartAll] at h
    cases hy : b.testBit y.i with
    | true =>
      rw [hy] at h
      rcases List.mem_cons.1 hx with rfl | c
      · rw [hb] at hy; cases hy
      · exact apartAll_spec h x c hb
    | false =>
      rw [hy] at h
      simp only [cond_false] at h
      cases ha : apartD y.d y.l d l with
      | false => rw [ha] at h; cases h
      | true =>
        rw [ha] at h
        rcases List.mem_cons.1 hx with rfl | c
        · exact ha
        · exact apartAll_spec h x c hb

theorem regionOk_spec {dsts : List (Option Nat)} {before : List Nat} : ∀ (os : List Oper) (i : Nat) (ns : List Nm), regionOk dsts before i os ns = true → ∀ j o, os[j]? = some o →
    bitsAt before (i + j) < 2 ^ (i + j) ∧ (∀ x ∈ ns, (bitsAt before (i + j)).testBit x.i = false → apartD x.d x.l o.dst (looksD dsts o) = true) ∧
      ∀ k o', k < j → os[k]? = some o' → (bitsAt before (i + j)).testBit (i + k) = false → apartD o'.dst (looksD dsts o') o.dst (looksD dsts o) = true
  | [], i, ns, _, j, o, hj => by simp at hj
  | x :: os, i, ns, h, j, o, hj => by
    simp only [regionOk] at h
    cases hc : (Nat.blt (bitsAt before i) (Nat.pow 2 i) && apartAll (bitsAt before i) x.dst (looksD dsts x) ns) with
    | false => rw [hc] at h; cases h
    | true =>
      rw [hc] at h
      simp only [cond_true] at h
      rw [Bool.and_eq_true] at hc
      cases j with
      | zero =>
        simp at hj; subst hj
        exact ⟨blt_iff.1 hc.1, apartAll_spec hc.2, fun k o' hk => absurd hk (Nat.not_lt_zero _)⟩
      | succ j =>
        obtain ⟨h1, h2, h3⟩ := regionOk_spec os (i + 1) _ h j o (by simpa using hj)
        rw [show i + 1 + j = i + (j + 1) by omega] at h1 h2 h3
        refine ⟨h1, fun y hy hb => h2 y (by simp [hy]) hb, fun k o' hk ho' hb => ?_⟩
        cases k with
        | zero => simp at ho'; subst ho'; exact h2 ⟨i, x.dst, looksD dsts x⟩ (by simp) hb
        | succ k => exact h3 k o' (by omega) (by simpa using ho') (by rw [← hb]; congr 1; omega)

section
variable {W : World} {om : OM} {P : Program} {call : CallF} {nt : Nat} {ops : Array Oper} {before : List Nat} {t0 : TT} {h0 : Hp} {w0 : World} {ρ0 : Rho} {a0 : Act} {fin : DSt} {st : Nat → DSt} {val : Nat → AV}

/-- All that the abstract run says. -/
structure Plan (P : Program) (om : OM) (call : CallF) (nt : Nat) (ops : Array Oper) (before : List Nat) (t0 : TT) (h0 : Hp) (fin : DSt) (st : Nat → DSt) (val : Nat → AV) : Prop where
  big : h0.nx + ops.size < 1000000000000
  dst : ∀ (i : Nat) (o : Oper), ops[i]? = some o → dstOk nt o.dst = true
  back : ∀ (i : Nat) (o : Oper), ops[i]? = some o → bitsAt before i < 2 ^ i
  apart : ∀ (i j : Nat) (oi oj : Oper), i < j → ops[i]? = some oi → ops[j]? = some oj → (bitsAt before j).testBit i = false → apartD oi.dst (looksD (ops.toList.map (·.dst)) oi) oj.dst (looksD (ops.toList.map (·.dst)) oj) = true
  st0 : st 0 = ⟨t0, ⟨⟨h0.tr, h0.nx + ops.size⟩, []⟩, [], [], []⟩
  stn : st ops.size = fin
  inv : ∀ j, j ≤ ops.size → RunInv before h0.nx j (st j) ∧ Grows j (st j) fin
  step : ∀ (j : Nat) (o : Oper), ops[j]? = some o → StepOk P om call (ops.toList.map (·.dst)) before h0.nx j o (st j) (st (j + 1)) (val j)
  reads : ∀ r ∈ fin.rds, (bif readAt before fin.pds r fin.h fin.old then readsAt before fin.pds r fin.old else false) = true

/-- What stands at a temporary when just these operations are done. -/
def Last (ops : Array Oper) (t0 : TT) (val : Nat → AV) (S : Nat → Bool) (x : Nat) (v : AV) : Prop :=
  (∃ (j : Nat) (o : Oper), ops[j]? = some o ∧ S j = true ∧ o.dst = some x ∧ v = val j ∧ ∀ (j' : Nat) (o' : Oper), ops[j']? = some o' → S j' = true → o'.dst = some x → j' ≤ j) ∨
  ((∀ (j : Nat) (o : Oper), ops[j]? = some o → S j = true → o.dst ≠ some x) ∧ v = TT.get (pth x) t0)

theorem Last.uniq {S : Nat → Bool} {x : Nat} {u v : AV} (h : Last ops t0 val S x u) (k : Last ops t0 val S x v) : u = v := by
  rcases h with ⟨j, o, h1, h2, h3, h4, h5⟩ | ⟨h1, h2⟩ <;> rcases k with ⟨j', o', k1, k2, k3, k4, k5⟩ | ⟨k1, k2⟩
  · have := h5 j' o' k1 k2 k3
    have := k5 j o h1 h2 h3
    have : j = j' := by omega
    rw [h4, k4, this]
  · exact absurd h3 (k1 j o h1 h2)
  · exact absurd k3 (h1 j' o' k1 k2)
  · rw [h2, k2]

theorem Last.congr {S S' : Nat → Bool} {x : Nat} {v : AV} (h : Last ops t0 val S x v) (hs : ∀ (j : Nat) (o : Oper), ops[j]? = some o → o.dst = some x → S j = S' j) : Last ops t0 val S' x v := by
  rcases h with ⟨j, o, h1, h2, h3, h4, h5⟩ | ⟨h1, h2⟩
  · exact .inl ⟨j, o, h1, by rw [← hs j o h1 h3]; exact h2, h3, h4, fun j' o' k1 k2 k3 => h5 j' o' k1 (by rw [hs j' o' k1 k3]; exact k2) k3⟩
  · exact .inr ⟨fun j o k1 k2 k3 => h1 j o k1 (by rw [hs j o k1 k3]; exact k2) k3, h2⟩

/-- One more is done, and puts what it comes to. -/
theorem Last.put {S S' : Nat → Bool} {i x : Nat} {o : Oper} {tS : TT} (hi : ops[i]? = some o) (hx : x < 256) (hok : dstOk nt o.dst = true) (hS' : ∀ j, S' j = (S j || decide (j = i)))
    (hmax : ∀ (j' : Nat) (o' : Oper), ops[j']? = some o' → S j' = true → o'.dst = o.dst → o.dst ≠ none → j' ≤ i) (h : Last ops t0 val S x (TT.get (pth x) tS)) : Last ops t0 val S' x (TT.get (pth x) (putT o.dst (val i) tS)) := by
  cases hd : o.dst with
  | none =>
    simp only [putT]
    exact h.congr fun j o' h1 h2 => by
      rw [hS' j]
      by_cases e : j = i
      · subst e; rw [hi] at h1; injection h1 with h1; subst h1; rw [hd] at h2; cases h2
      · simp [e]
  | some d =>
    simp only [putT]
    have hdl : d < 256 := by
      rw [hd] at hok
      simp only [dstOk, Bool.and_eq_true] at hok
      exact okT_lt hok.2
    rw [TT.get_set]
    by_cases e : x = d
    · subst e
      rw [if_pos rfl]
      refine .inl ⟨i, o, hi, by rw [hS' i]; simp, hd, rfl, fun j' o' h1 h2 h3 => ?_⟩
      rw [hS' j'] at h2
      by_cases e : j' = i
      · omega
      · simp [e] at h2
        exact hmax j' o' h1 h2 (by rw [h3, hd]) (by rw [hd]; simp)
    · rw [if_neg fun e' => e (pth_inj hx hdl e')]
      exact h.congr fun j o' h1 h2 => by
        rw [hS' j]
        by_cases e2 : j = i
        · subst e2; rw [hi] at h1; injection h1 with h1; subst h1; rw [hd] at h2; injection h2 with h2; exact absurd h2.symm e
        · simp [e2]

theorem Plan.text (pl : Plan P om call nt ops before t0 h0 fin st val) : ∀ i, i ≤ ops.size → ∀ x, x < 256 → Last ops t0 val (fun j => decide (j < i)) x (TT.get (pth x) (st i).t)
  | 0, _, x, _ => .inr ⟨fun j o _ h => by simp at h, by rw [pl.st0]⟩
  | i + 1, hi, x, hx => by
    have hio : ops[i]? = some ops[i] := Array.getElem?_eq_getElem (by omega)
    rw [(pl.step i _ hio).t]
    refine Last.put hio hx (pl.dst i _ hio) (fun j => ?_) (fun j' o' h1 h2 h3 _ => ?_) (pl.text i (by omega) x hx)
    · rw [Bool.eq_iff_iff]; simp; omega
    · simp at h2; omega

/-- What stands when just these operations are done. -/
structure J (W : World) (om : OM) (nt : Nat) (ops : Array Oper) (before : List Nat) (t0 : TT) (h0 : Hp) (w0 : World) (ρ0 : Rho) (a0 : Act) (fin : DSt) (val : Nat → AV) (S : Nat → Bool) (a : Act) (w : World) (ρ : Rho) : Prop where
  closed : ∀ (i : Nat) (o : Oper), ops[i]? = some o → S i = true → ∀ j, (bitsAt before i).testBit j = true → S j = true
  tmp : ∃ tS, StRel ρ nt tS a ∧ ∀ x, x < 256 → Last ops t0 val S x (TT.get (pth x) tS)
  df : a.defers = a0.defers
  heap : ∃ A rest, fin.old = A ++ rest ∧ (∀ e ∈ A, S e.1 = false) ∧ (∀ e ∈ rest, S e.1 = true) ∧ Goes W om ρ0 h0 w0 ρ (layS S (curH A fin.h) fin.pds) w ∧
    (∀ p ∈ fin.pds, p.i ∉ (curH A fin.h).laid → (curH A fin.h).h.get p.id = none) ∧ (∀ i ∈ (curH A fin.h).laid, S i = true) ∧ h0.nx + ops.size ≤ (curH A fin.h).h.nx
  und : ∀ p ∈ fin.pds, S p.i = false → ρ p.id = none

theorem Plan.pds (pl : Plan P om call nt ops before t0 h0 fin st val) : PdsOk h0.nx ops.size fin.pds := by
  have := (pl.inv ops.size (Nat.le_refl _)).1.pds
  rw [pl.stn] at this
  exact this

theorem Plan.noPd (pl : Plan P om call nt ops before t0 h0 fin st val) {i : Nat} (hi : i < ops.size) (h : (st (i + 1)).pds = (st i).pds) : ∀ p ∈ fin.pds, p.i ≠ i := by
  intro p hp
  obtain ⟨l, e, m⟩ := (pl.inv (i + 1) (by omega)).2.pds
  rw [e] at hp
  rcases List.mem_append.1 hp with c | c
  · have := m p c; omega
  · rw [h] at c; have := ((pl.inv i (by omega)).1.pds.id p c).1; omega
theorem Plan.noEf (pl : Plan P om call nt ops before t0 h0 fin st val) {i : Nat} (hi : i < ops.size) (h : (st (i + 1)).old = (st i).old) : ∀ p ∈ fin.old, p.1 ≠ i := by
  intro p hp
  obtain ⟨l, e, m, _⟩ := (pl.inv (i + 1) (by omega)).2.old
  rw [e] at hp
  rcases List.mem_append.1 hp with c | c
  · have := m p c; omega
  · rw [h] at c; have := (pl.inv i (by omega)).1.old p c; omega

variable {S S' : Nat → Bool} {a : Act} {w : World} {ρ : Rho} {i : Nat} {o : Oper}

/-- What an operation looks at is there as in the text's order. -/
theorem Plan.agree (pl : Plan P om call nt ops before t0 h0 fin st val) (hi : ops[i]? = some o) (hSi : S i = false) (hdep : ∀ j, (bitsAt before i).testBit j = true → S j = true)
    (hcl : ∀ (i : Nat) (o : Oper), ops[i]? = some o → S i = true → ∀ j, (bitsAt before i).testBit j = true → S j = true) {tS : TT} (hL : ∀ x, x < 256 → Last ops t0 val S x (TT.get (pth x) tS)) {x : Nat} (hx : x < 256)
    (hm : x ∈ looksD (ops.toList.map (·.dst)) o) : TT.get (pth x) tS = TT.get (pth x) (st i).t := by
  have hlt : i < ops.size := (Array.getElem?_eq_some_iff.1 hi).1
  refine ((hL x hx).congr fun j o' h1 h2 => ?_).uniq (pl.text i (by omega) x hx)
  rcases Nat.lt_trichotomy j i with c | c | c
  · have : (bitsAt before i).testBit j = true := by
      cases hb : (bitsAt before i).testBit j with
      | true => rfl
      | false => exact absurd hm ((apartD_spec (pl.apart j i o' o c h1 hi hb)).1 x h2).1
    rw [hdep j this]; simp [c]
  · subst c; rw [hSi]; simp
  · have : (bitsAt before j).testBit i = true := by
      cases hb : (bitsAt before j).testBit i with
      | true => rfl
      | false => exact absurd hm ((apartD_spec (pl.apart i j o o' c hi h1 hb)).2 x h2)
    have hSj : S j = false := by
      rw [Bool.eq_false_iff]
      intro e
      have := hcl j o' h1 e i this
      rw [hSi] at this; cases this
    rw [hSj]; simp; omega

theorem looks_op {dsts : List (Option Nat)} {x : Nat} (h : Operand.tmp x ∈ o.op.operands) : x ∈ looksD dsts o := by
  have hx : x ∈ o.op.operands.toList.filterMap fun x => match x with | .tmp i => some i | _ => none := List.mem_filterMap.2 ⟨.tmp x, by simpa using h, rfl⟩
  unfold looksD
  split
  · exact hx
  · split
    · exact List.mem_cons_of_mem _ hx
    · exact hx

theorem wantedD_eq {dsts : List (Option Nat)} {t t' : TT} (h : ∀ x, x < 256 → x ∈ looksD dsts o → TT.get (pth x) t = TT.get (pth x) t') : wantedD dsts o t = wantedD dsts o t' := by
  unfold wantedD
  cases hg : o.guard with
  | none => rfl
  | some gw =>
    obtain ⟨g, wn⟩ := gw
    simp only []
    cases hga : guardAt dsts g with
    | no => rfl
    | skip => rfl
    | «at» gp =>
      simp only []
      unfold guardAt at hga
      split at hga
      · rename_i d hd
        cases hok : okT d with
        | false => rw [hok] at hga; cases hga
        | true =>
          rw [hok] at hga
          injection hga with hga
          subst hga
          have hm : d ∈ looksD dsts o := by
            unfold looksD
            rw [hg]
            simp only [hd]
            exact List.mem_cons_self
          rw [h d (okT_lt hok) hm]
      · cases hga

theorem wantedD_rel {t : TT} {b : Bool} (s : StRel ρ nt t a) (h : wantedD (ops.toList.map (·.dst)) o t = .yes b) : Region.wanted o (yielded ops a.tmps) = b := by
  unfold wantedD at h
  cases hg : o.guard with
  | none =>
    rw [hg] at h
    injection h with h; subst h
    unfold Region.wanted; rw [hg]
  | some gw =>
    obtain ⟨g, wn⟩ := gw
    rw [hg] at h
    simp only [] at h
    cases hga : guardAt (ops.toList.map (·.dst)) g with
    | no => rw [hga] at h; cases h
    | skip => rw [hga] at h; injection h with h; subst h; exact skipped_rel hg hga
    | «at» gp => rw [hga] at h; exact wanted_rel s hg hga h

/-- An object is made whose place was kept for it. -/
theorem Goes.alloc_at {X X' : Hp} {ob : AObj} {obj : Obj} {L : Loc} {k : Nat} (g : Goes W om ρ0 h0 w0 ρ X w) (hk : ρ k = none) (hk0 : h0.nx ≤ k) (hkX : k < X.nx) (hn : X'.nx = X.nx)
    (hget : ∀ j u, X'.get j = some u → (j = k ∧ u = ob) ∨ (j ≠ k ∧ X.get j = some u)) (hL : L.blk = w.heap.size) (ho : ∀ ρ', ρ.le ρ' → ρ' k = some L → ORel ρ' ob L obj) :
    Goes W om ρ0 h0 w0 (fun j => if j = k then some L else ρ j) X' (w.alloc obj) where
  ext := Rho.le_trans g.ext (Rho.le_set hk L)
  rel := g.rel.put_new hk (by omega) (by omega) hget hL (ho _ (Rho.le_set hk L) (by simp))
  frm := fun B hB hn2 => by
    have h1 := g.frm B hB hn2
    have h2 : B < w.heap.size := Nat.lt_of_lt_of_le hB g.size
    show (w.heap.push obj)[B]? = _
    rw [Array.getElem?_push_lt h2, ← Array.getElem?_eq_getElem]
    exact h1
  size := by have := g.size; simp; omega
  own := fun j u M hj hM => by
    rcases hget j u hj with ⟨rfl, rfl⟩ | ⟨hne, hj'⟩
    · simp only [if_true] at hM
      injection hM with hM
      subst hM
      have := g.size
      exact .inl (by omega)
    · simp only [hne, if_false] at hM
      exact g.own j u M hj' hM
  nx := by rw [hn]; exact g.nx
  keep := fun j hj => by
    have : j ≠ k := by omega
    simp only [this, if_false]
    exact g.keep j hj
end
end Go.Ev
