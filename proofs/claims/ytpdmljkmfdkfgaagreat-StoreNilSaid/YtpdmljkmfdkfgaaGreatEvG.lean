/-
  What is proved: reading and writing cells of memory: what the abstract heap says of them. No condition.
-/
import Derived.Test.YtpdmljkmfdkfgaaGreatEvF
import Derived.Lib.FrozenHead
namespace Go.Ev

section
variable {W : World} {om : OM} {P : Program} {ρ ρ' : Rho} {h h' : Hp} {w w' : World} {t : TT} {a : Act}

/-! ### what the operations are to do -/
def ReadOk (W : World) (om : OM) (P : Program) (o : Oper) (f : TT → Hp → OV) : Prop :=
  ∀ (ρ : Rho) (t : TT) (a : Act) (h : Hp) (w : World) (v : AV), TRel ρ t a.tmps → HRel W om ρ h w → f t h = .yes v →
    ∃ x w', (execOp a.eval o).run P w = .ok (.value x) w' ∧ VRel ρ v x ∧ Goes W om ρ h w ρ h w'

def AllocOk (P : Program) (o : Oper) (f : TT → OA) : Prop :=
  ∀ (ρ : Rho) (t : TT) (a : Act) (w : World) (ob : AObj) (mk : Nat → AV), TRel ρ t a.tmps → f t = .yes ob mk →
    ∃ obj x L n, (execOp a.eval o).run P w = .ok (.value x) { w.alloc obj with drawn := n } ∧ L.blk = w.heap.size ∧ ob.isRo = false ∧
      ∀ (ρ' : Rho) (i : Nat), ρ.le ρ' → ρ' i = some L → ORel ρ' ob L obj ∧ VRel ρ' (mk i) x

def nextV : Next → Option Value
  | .value x => some x
  | .skip => some Go.undef
  | _ => none

def EffOk (W : World) (om : OM) (P : Program) (o : Oper) (f : TT → Hp → OVH) : Prop :=
  ∀ (ρ : Rho) (t : TT) (a : Act) (h : Hp) (w : World) (v : AV) (h' : Hp), TRel ρ t a.tmps → HRel W om ρ h w → f t h = .yes v h' →
    ∃ r x w' ρ', (execOp a.eval o).run P w = .ok r w' ∧ nextV r = some x ∧ VRel ρ' v x ∧ Goes W om ρ h w ρ' h' w'

/-! ### reading -/
theorem World.cell_cells {w : World} {b i : Nat} {cs : Array Value} {ty : TypeId} {fz : Nat × Nat} (hb : w.heap[b]? = some (.cells cs ty fz)) : w.cell? ⟨b, i, none⟩ = cs[i]? := by
  simp [World.cell?, hb]

theorem hGet1_rel (r : HRel W om ρ h w) {b : Blk} {i : Nat} {v : AV} {ad : Addr} (hg : hGet1 om h b i = .yes v) (hp : PRel ρ b i ad) : ∃ x, w.cell? ad = some x ∧ VRel ρ v x := by
  cases b with
  | o b =>
    obtain ⟨x, h1, h2⟩ := r.om b i v hg
    have e : ad = ⟨b, i, none⟩ := hp
    subst e
    refine ⟨x, ?_, h2⟩
    have hlt : b < W.heap.size := by
      rcases Nat.lt_or_ge b W.heap.size with c | c
      · exact c
      · simp [World.cell?, Array.getElem?_eq_none c] at h1
    have := r.old b hlt
    simp only [World.cell?] at h1 ⊢
    rw [this]
    exact h1
  | n b =>
    obtain ⟨M, hM, rfl⟩ := hp
    simp only [hGet1] at hg
    split at hg
    · rename_i c hc
      obtain ⟨L, obj, h1, h2, ⟨cs, ty, fz, rfl, _, h3⟩, _⟩ := r.objs b _ hc
      rw [hM] at h1; injection h1 with h1; subst h1
      obtain ⟨x, hx, hv⟩ := h3 i v hg
      exact ⟨x, by rw [World.cell_cells h2]; exact hx, hv⟩
    · rename_i z c hc
      obtain ⟨L, obj, h1, h2, ⟨cs, ty, fz, rfl, _, h3, _⟩, _⟩ := r.objs b _ hc
      rw [hM] at h1; injection h1 with h1; subst h1
      obtain ⟨x, hx, hv⟩ := h3 i v hg
      exact ⟨x, by rw [World.cell_cells h2]; exact hx, hv⟩
    · rename_i c hc
      obtain ⟨L, obj, h1, h2, ⟨cs, ty, fz, rfl, h3⟩, _⟩ := r.objs b _ hc
      rw [hM] at h1; injection h1 with h1; subst h1
      obtain ⟨x, hx, hv⟩ := h3 i v hg
      exact ⟨x, by rw [World.cell_cells h2]; exact hx, hv⟩
    · cases hg

theorem omGetN_yes (om : OM) (b : Nat) : ∀ (n i : Nat) (vs : List AV), omGetN om b i n = .yes vs → vs.length = n ∧ ∀ j, j < n → ∃ v, vs[j]? = some v ∧ om b (i + j) = .yes v
  | 0, i, vs, h => by simp only [omGetN] at h; injection h with h; subst h; exact ⟨rfl, fun j hj => absurd hj (Nat.not_lt_zero _)⟩
  | n + 1, i, vs, h => by
    simp only [omGetN] at h
    split at h
    · rename_i v hv
      split at h
      · rename_i us hu
        injection h with h
        subst h
        obtain ⟨h1, h2⟩ := omGetN_yes om b n (i + 1) us hu
        refine ⟨by simp [h1], fun j hj => ?_⟩
        cases j with
        | zero => exact ⟨v, rfl, hv⟩
        | succ j =>
          obtain ⟨u, h3, h4⟩ := h2 j (by omega)
          exact ⟨u, by simpa using h3, by rw [← h4]; congr 1; omega⟩
      · cases h
    · cases h

theorem hGetN_yes {b : Blk} {i n : Nat} {vs : List AV} (hg : hGetN om h b i n = .yes vs) : vs.length = n ∧ ∀ j, j < n → ∃ v, vs[j]? = some v ∧ hGet1 om h b (i + j) = .yes v := by
  cases b with
  | o b => exact omGetN_yes om b n i vs hg
  | n b =>
    simp only [hGetN] at hg
    split at hg
    · rename_i c hc
      have e : ∀ k, hGet1 om h (.n b) k = c.get k := fun k => by simp only [hGet1, hc]
      simp only [e]; exact Cells.getN_yes hg
    · rename_i z c hc
      have e : ∀ k, hGet1 om h (.n b) k = c.get k := fun k => by simp only [hGet1, hc]
      simp only [e]; exact Cells.getN_yes hg
    · rename_i c hc
      have e : ∀ k, hGet1 om h (.n b) k = c.get k := fun k => by simp only [hGet1, hc]
      simp only [e]; exact Cells.getN_yes hg
    · cases hg

theorem relL_exists {ρ : Rho} : ∀ (vs : List AV) (Q : Nat → Value → Prop), (∀ j v, vs[j]? = some v → ∃ x, Q j x ∧ VRel ρ v x) → ∃ l : List Value, VRelL ρ vs l ∧ ∀ j x, l[j]? = some x → Q j x
  | [], Q, _ => ⟨[], rfl, fun j x h => by simp at h⟩
  | v :: vs, Q, h => by
    obtain ⟨x, q, r⟩ := h 0 v rfl
    obtain ⟨l, h1, h2⟩ := relL_exists vs (fun j x => Q (j + 1) x) fun j v hv => h (j + 1) v (by simpa using hv)
    refine ⟨x :: l, ⟨x, l, rfl, r, h1⟩, fun j y hy => ?_⟩
    cases j with
    | zero => simp at hy; subst hy; exact q
    | succ j => exact h2 j y (by simpa using hy)

theorem hGetN_rel (r : HRel W om ρ h w) {b : Blk} {i n : Nat} {vs : List AV} {ad : Addr} (hg : hGetN om h b i n = .yes vs) (hp : PRel ρ b i ad) :
    ∃ l : List Value, VRelL ρ vs l ∧ l.length = n ∧ (∀ j x, l[j]? = some x → w.cell? (ad.add j) = some x) ∧ ∀ P, (loadCells ad n).run P w = .ok l.toArray w := by
  obtain ⟨h1, h2⟩ := hGetN_yes hg
  obtain ⟨l, h3, h4⟩ := relL_exists (ρ := ρ) vs (fun j x => w.cell? (ad.add j) = some x) fun j v hv => by
    have hj : j < n := by rw [← h1]; exact (List.getElem?_eq_some_iff.1 hv).1
    obtain ⟨u, hu, hg⟩ := h2 j hj
    rw [hv] at hu; injection hu with hu; subst hu
    exact hGet1_rel r hg hp.add
  have hl : l.length = n := by rw [h3.length, h1]
  exact ⟨l, h3, hl, h4, fun P => by have := run_loadCells_list (P := P) w ad l h4; rw [hl] at this; exact this⟩

theorem load1_ok {o : Oper} {ty : TypeId} {x : Operand} {g : Get} {n : Nat} (ho : o.op = .load ty x) (hg : tyAgg P ty = some false) (_hn : tySize P ty = some n) (hx : opd x = some g) : ReadOk W om P o (load1 om g) := by
  intro ρ t a h w v rt rh he
  have rx := opd_rel hx rt
  simp only [load1] at he
  split at he
  · rename_i b off hb
    rw [hb] at rx
    obtain ⟨ad, ex, hp⟩ := rx
    obtain ⟨y, h1, h2⟩ := hGet1_rel rh he hp
    refine ⟨y, w, ?_, h2, Goes.refl rh⟩
    simp [execOp, ho, ex, Instr.loadAt, Instr.sureAddr, loadVar, tyAgg_run hg, h1]
  · cases he

theorem loadN_ok {o : Oper} {ty : TypeId} {x : Operand} {g : Get} {n : Nat} (ho : o.op = .load ty x) (hg : tyAgg P ty = some true) (hn : tySize P ty = some n) (hx : opd x = some g) : ReadOk W om P o (loadN om n g) := by
  intro ρ t a h w v rt rh he
  have rx := opd_rel hx rt
  simp only [loadN] at he
  split at he
  · rename_i b off hb
    rw [hb] at rx
    obtain ⟨ad, ex, hp⟩ := rx
    split at he
    · rename_i cs hcs
      injection he with he; subst he
      obtain ⟨l, h1, h2, h3, h4⟩ := hGetN_rel rh hcs hp
      refine ⟨.agg l.toArray, w, ?_, ⟨l, rfl, h1⟩, Goes.refl rh⟩
      simp [execOp, ho, ex, Instr.loadAt, Instr.sureAddr, loadVar, tyAgg_run hg, run_sz hn, h4]
    · cases he
  · cases he

/-! ### writing -/
theorem isCell_one {v : AV} {x : Value} (r : VRel ρ v x) (hc : isCell v = true) : x.oneCell' = true := by
  cases v with
  | int k n => cases r; rfl
  | bool b => cases r; rfl
  | «at» a =>
    cases a <;> simp only [VRel, ARel] at r
    case str => obtain ⟨b, rfl, _⟩ := r; rfl
    case ptr => obtain ⟨b, rfl, _⟩ := r; rfl
    case slice => obtain ⟨b, rfl, _⟩ := r; rfl
    case oslice => obtain ⟨L, c, o, _, _, rfl, _⟩ := r; rfl
    case map => obtain ⟨b, _, rfl⟩ := r; rfl
    case chan => obtain ⟨b, _, rfl⟩ := r; rfl
    case yield => obtain ⟨b, _, rfl⟩ := r; rfl
    case iter => obtain ⟨b, _, rfl⟩ := r; rfl
    case old => obtain ⟨rfl, h1⟩ := r; exact h1
    all_goals (subst r; rfl)
  | agg cs => cases hc
  | tup cs => cases hc
  | fn f x y => obtain ⟨l, m, rfl, _⟩ := r; rfl
  | iface t v => obtain ⟨l, rfl, _⟩ := r; rfl

theorem flatL_one {ρ : Rho} : ∀ {vs : List AV} {l : List Value}, VRelL ρ vs l → flatL vs = true → ∀ x ∈ l, x.oneCell' = true
  | [], _, r, _, x, hx => by rw [r] at hx; cases hx
  | v :: vs, _, r, hf, x, hx => by
    obtain ⟨y, ys, rfl, r1, r2⟩ := r
    simp only [flatL] at hf
    cases hc : isCell v with
    | false => rw [hc] at hf; cases hf
    | true =>
      rw [hc] at hf
      rcases List.mem_cons.1 hx with e | e
      · subst e; exact isCell_one r1 hc
      · exact flatL_one r2 hf x e

theorem frozen_free {w : World} {b i : Nat} {cs : Array Value} {ty : TypeId} {fz : Nat × Nat} (hb : w.heap[b]? = some (.cells cs ty fz)) (hf : Free cs.size fz) (hi : i < cs.size) : w.frozen? ⟨b, i, none⟩ = false := by
  obtain ⟨lo, hi'⟩ := fz
  simp only [World.frozen?, hb, Bool.and_eq_false_iff, decide_eq_false_iff_not]
  simp only [Free] at hf
  rcases hf with hf | hf <;> omega

theorem setRow_eq {w : World} {b : Nat} {cs cs' : Array Value} {ty : TypeId} {fz : Nat × Nat} (hb : w.heap[b]? = some (.cells cs ty fz)) :
    w.setRow b cs' = { w with heap := w.heap.setIfInBounds b (.cells cs' ty fz) } := by
  have hlt := (Array.getElem?_eq_some_iff.1 hb).1
  have hbe := (Array.getElem?_eq_some_iff.1 hb).2
  unfold World.setRow
  congr 1
  apply Array.ext
  · simp
  · intro i h1 h2
    simp only [Array.getElem_modify]
    split
    · rename_i e; subst e; simp [hbe]
    · rename_i e; exact (Array.getElem_setIfInBounds_ne (by simpa using h1) e).symm

theorem run_storeCellsG (P : Program) (g o : Nat) (ty : TypeId) (fz : Nat × Nat) : ∀ (vs : List Value) (i : Nat) (cur : Array Value) (w : World), w.heap[g]? = some (.cells cur ty fz) → Free cur.size fz → o + i + vs.length ≤ cur.size →
    (∀ v ∈ vs, v.oneCell' = true) → (storeCells ⟨g, o, none⟩ vs i).run P w = .ok () (w.setRow g (cur.toList.take (o + i) ++ vs ++ cur.toList.drop (o + i + vs.length)).toArray)
  | [], i, cur, w, hg, _, _, _ => by
    simp only [storeCells, List.append_nil, List.length_nil, Nat.add_zero, List.take_append_drop, Array.toArray_toList]
    rw [setRow_self w g cur ty fz hg]
    rfl
  | v :: rest, i, cur, w, hg, hfz, hl, h1 => by
    have hi : o + i < cur.size := by simp at hl; omega
    have hadd : (⟨g, o, none⟩ : Addr).add i = ⟨g, o + i, none⟩ := by unfold Addr.add; split <;> simp_all
    have hcell : w.cell? ⟨g, o + i, none⟩ = some cur[o + i] := by simp [World.cell?, hg, hi]
    have hfro : w.frozen? ⟨g, o + i, none⟩ = false := frozen_free hg hfz hi
    have hst : (store ((⟨g, o, none⟩ : Addr).add i) v).run P w = .ok () (w.setRow g (cur.setIfInBounds (o + i) v)) := by
      rw [hadd, run_store P w _ v _ (h1 v (by simp)), hcell]
      simp [hfro, setCell_eq_setRow w g (o + i) cur ty fz v hg]
    have ih := run_storeCellsG P g o ty fz rest (i + 1) (cur.setIfInBounds (o + i) v) (w.setRow g (cur.setIfInBounds (o + i) v)) (setRow_heap w g cur _ ty _ hg) (by simpa using hfz) (by simp at hl ⊢; omega) (fun x hx => h1 x (by simp [hx]))
    simp only [storeCells, Sem.run_bind, hst, Result.andThen_ok, ih, setRow_setRow]
    congr 3
    have e := list_seg_step cur.toList (o + i) v rest (by simp at hl ⊢; omega)
    simpa [Array.toList_setIfInBounds, Nat.add_assoc] using e

/-- Cells put: what the row then holds. -/
theorem CRel.put {c c' : Cells} {sh i : Nat} {vs : List AV} {cs : Array Value} {l : List Value} (hc : CRel ρ c sh cs) (hp : c.putN i vs = .yes c') (hv : VRelL ρ vs l) (hle : i + sh + l.length ≤ cs.size) :
    CRel ρ c' sh (cs.toList.take (i + sh) ++ l ++ cs.toList.drop (i + sh + l.length)).toArray := by
  obtain ⟨h1, _, _⟩ := Cells.putN_yes hp
  intro j v hj
  rw [h1 j] at hj
  have hlen := hv.length
  by_cases hin : i ≤ j ∧ j < i + vs.length
  · rw [if_pos hin] at hj
    split at hj
    · rename_i u hu
      injection hj with hj; subst hj
      obtain ⟨x, hx, hr⟩ := hv.get hu
      refine ⟨x, ?_, hr⟩
      have hs : cs.toList.length = cs.size := Array.length_toList
      rw [List.getElem?_toArray, List.append_assoc, List.getElem?_append_right (by simp; omega), List.getElem?_append_left (by simp; omega)]
      rw [show j + sh - (cs.toList.take (i + sh)).length = j - i by simp; omega]
      exact hx
    · cases hj
  · rw [if_neg hin] at hj
    obtain ⟨x, hx, hr⟩ := hc j v hj
    refine ⟨x, ?_, hr⟩
    have hs : cs.toList.length = cs.size := Array.length_toList
    have hj' : j + sh < cs.size := (Array.getElem?_eq_some_iff.1 hx).1
    rw [List.getElem?_toArray]
    rcases Nat.lt_or_ge j i with a | a
    · rw [List.append_assoc, List.getElem?_append_left (by simp; omega), List.getElem?_take, if_pos (by omega), Array.getElem?_toList]
      exact hx
    · rw [List.getElem?_append_right (by simp; omega), List.getElem?_drop, Array.getElem?_toList]
      rw [show i + sh + l.length + (j + sh - (cs.toList.take (i + sh) ++ l).length) = j + sh by simp; omega]
      exact hx

/-- The end of cells is there. -/
theorem CRel.last {c : Cells} {sh : Nat} {cs : Array Value} (hc : CRel ρ c sh cs) (hn : 0 < c.size) : c.size + sh ≤ cs.size := by
  have : ∃ v, c.get (c.size - 1) = .yes v := by
    cases c with
    | l xs =>
      simp only [Cells.size] at hn
      exact ⟨xs[xs.length - 1], by simp [Cells.get, Cells.size, nthL_eq, show xs.length - 1 < xs.length by omega]⟩
    | t n tr d =>
      simp only [Cells.size] at hn
      exact ⟨_, by simp only [Cells.get, Cells.size]; rw [blt_iff.2 (show n - 1 < n by omega)]; rfl⟩
  obtain ⟨v, hv⟩ := this
  obtain ⟨x, hx, _⟩ := hc _ v hv
  have := (Array.getElem?_eq_some_iff.1 hx).1
  omega

theorem hPutN_rel (r : HRel W om ρ h w) {b : Blk} {i : Nat} {vs : List AV} {l : List Value} {ad : Addr} (hg : hPutN h b i vs = .yes h') (hp : PRel ρ b i ad) (hv : VRelL ρ vs l) (hne : vs ≠ []) :
    ∃ w', (∀ P, (storeCells ad l).run P w = .ok () w') ∧ Goes W om ρ h w ρ h' w' := by
  have hlen := hv.length
  unfold hPutN at hg
  cases hf : flatL vs with
  | false => rw [hf] at hg; cases hg
  | true =>
    rw [hf] at hg
    simp only [Bool.not_true, cond_false] at hg
    have h1 := flatL_one hv hf
    split at hg
    · cases hg
    · rename_i b
      obtain ⟨M, hM, rfl⟩ := hp
      split at hg
      · rename_i c hc
        split at hg
        · rename_i c' hc'
          injection hg with hg; subst hg
          obtain ⟨L, obj, e1, h2, ⟨cs, ty, fz, rfl, hfz, h3⟩, _⟩ := r.objs b _ hc
          rw [hM] at e1; injection e1 with e1; subst e1
          obtain ⟨_, hsz, hle⟩ := Cells.putN_yes hc'
          have hle := hle hne
          have hpos : 0 < vs.length := by cases vs with | nil => exact absurd rfl hne | cons => simp
          have hlast := h3.last (by omega)
          have hle2 : i + M.sh + l.length ≤ cs.size := by omega
          refine ⟨_, fun P => run_storeCellsG P M.blk (i + M.sh) ty fz l 0 cs w h2 hfz (by omega) h1, ?_⟩
          rw [setRow_eq h2]
          refine Goes.set r hc hM rfl ⟨_, ty, fz, rfl, ?_, h3.put hc' hv hle2⟩
          have : (cs.toList.take (i + M.sh + 0) ++ l ++ cs.toList.drop (i + M.sh + 0 + l.length)).toArray.size = cs.size := by simp; omega
          rw [this]; exact hfz
        · cases hg
      · rename_i z c hc
        split at hg
        · rename_i c' hc'
          injection hg with hg; subst hg
          obtain ⟨L, obj, e1, h2, ⟨cs, ty, fz, rfl, hfz, h3, h4, h5⟩, _⟩ := r.objs b _ hc
          rw [hM] at e1; injection e1 with e1; subst e1
          obtain ⟨_, hsz, hle⟩ := Cells.putN_yes hc'
          have hle := hle hne
          have hpos : 0 < vs.length := by cases vs with | nil => exact absurd rfl hne | cons => simp
          have hlast := h3.last (by omega)
          have hle2 : i + M.sh + l.length ≤ cs.size := by omega
          refine ⟨_, fun P => run_storeCellsG P M.blk (i + M.sh) ty fz l 0 cs w h2 hfz (by omega) h1, ?_⟩
          rw [setRow_eq h2]
          have : (cs.toList.take (i + M.sh + 0) ++ l ++ cs.toList.drop (i + M.sh + 0 + l.length)).toArray.size = cs.size := by simp; omega
          refine Goes.set r hc hM rfl ⟨_, ty, fz, rfl, ?_, h3.put hc' hv hle2, ?_, h5⟩
          · rw [this]; exact hfz
          · rw [this]; exact h4
        · cases hg
      · cases hg

theorem store_ok {o : Oper} {ty : TypeId} {x y : Operand} {gx gy : Get} {n : Nat} (ho : o.op = .store ty x y) (hn : tySize P ty = some n) (hn0 : n ≠ 0) (hx : opd x = some gx) (hy : opd y = some gy) : EffOk W om P o (storeA n gx gy) := by
  intro ρ t a h w v h' rt rh he
  have rx := opd_rel hx rt
  have ry := opd_rel hy rt
  unfold storeA at he
  split at he
  · rename_i b off hb
    rw [hb] at rx
    obtain ⟨ad, ex, hp⟩ := rx
    split at he
    · cases he
    · cases hs : Nat.beq (gy t).cells.length n with
      | false => rw [hs] at he; cases he
      | true =>
        rw [hs] at he
        simp only [cond_true] at he
        have hs := beq_iff.1 hs
        split at he
        · rename_i h2 hput
          injection he with e1 e2; subst e1 e2
          obtain ⟨l, hl, hr⟩ := ry.cells
          obtain ⟨w', hrun, hgo⟩ := hPutN_rel rh hput hp hr (by intro e; rw [e] at hs; exact hn0 hs.symm)
          refine ⟨.skip, Go.undef, w', ρ, ?_, rfl, ⟨[], rfl, rfl⟩, hgo⟩
          have hll : l.length = n := by rw [hr.length, hs]
          simp [execOp, ho, ex, Instr.storeAt, Instr.sureAddr, storeVar, run_sz hn, hl, hrun, hll]
        · cases he
  · cases he
end
end Go.Ev
