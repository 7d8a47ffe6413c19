/-
  What is proved: append, copy, clear as operations; a channel shut; maps. No condition.
-/
import Derived.Test.YtpdmljkmfdkfgaaGreatEvK
namespace Go.Ev
open Go.MapKept (IsKey bytes_beq run_findKey)

section
variable {W : World} {om : OM} {P : Program} {ρ ρ' : Rho} {h h' : Hp} {w w' : World} {t : TT} {a : Act}

theorem getMap {r : Nat} {es : Array MapEntry} {c : Nat} (hb : w.heap[r]? = some (.map es c)) : (getObj r).run P w = .ok (.map es c) w := by simp [getObj, Sem.run, hb]
theorem setMap {r : Nat} {es : Array MapEntry} {c : Nat} (o : Obj) (hb : w.heap[r]? = some (.map es c)) : (setObj r o).run P w = .ok () { w with heap := w.heap.setIfInBounds r o } := by simp [setObj, Sem.run, hb]
theorem getChan {r room s rc : Nat} {buf : Array Value} {cl tm : Bool} (hb : w.heap[r]? = some (.chan room buf cl s rc tm)) : (getObj r).run P w = .ok (.chan room buf cl s rc tm) w := by simp [getObj, Sem.run, hb]
theorem setChan {r room s rc : Nat} {buf : Array Value} {cl tm : Bool} (o : Obj) (hb : w.heap[r]? = some (.chan room buf cl s rc tm)) : (setObj r o).run P w = .ok () { w with heap := w.heap.setIfInBounds r o } := by simp [setObj, Sem.run, hb]

theorem tyZero_info {e : TypeId} {z : List AV} (hz : tyZero P e = .yes z) : ∃ (i : TypeInfo) (zv : Value) (l : List Value), P.info? e = some i ∧ i.zero = some zv ∧ zv.cells = l.toArray ∧ ∀ ρ, VRelL ρ z l := by
  unfold tyZero at hz
  cases hv : tyZeroV P e with
  | no => rw [hv] at hz; cases hz
  | yes v =>
    rw [hv] at hz
    injection hz with hz; subst hz
    unfold tyZeroV at hv
    cases hi : P.info? e with
    | none => rw [hi] at hv; cases hv
    | some i =>
      rw [hi] at hv
      simp only [] at hv
      cases hz : i.zero with
      | none => rw [hz] at hv; cases hv
      | some zv =>
        rw [hz] at hv
        have hr := fun ρ => cv_rel ρ zv v hv
        obtain ⟨l, e1, _⟩ := (hr (fun _ => none)).cells
        refine ⟨i, zv, l, rfl, hz, e1, fun ρ => ?_⟩
        obtain ⟨l', e', r'⟩ := (hr ρ).cells
        rw [e1] at e'
        have : l = l' := by injection e'
        rw [this]
        exact r'

theorem append_ok {o : Oper} {c : Call} {ty u e : TypeId} {gs gx : Get} {sz by_ : Nat} {z : List AV} (ho : o.op = .call c) (hc : c.callee = .builtin .append) (ht : c.argTypes.toList = [ty, u]) (hx : opds c.args.toList = some [gs, gx])
    (hu : P.underlying ty = some (.slice e)) (hu2 : (∃ e', P.underlying u = some (.slice e')) ∨ P.underlying u = some .string) (hs : tySize P e = some sz) (hb : tyBytes P e = some by_) (hz : tyZero P e = .yes z)
    (hk : (Nat.beq z.length sz && Nat.blt 0 sz && Nat.blt by_ 1024) = true) : EffOk W om P o (fun t h => appendA om sz by_ (gs t) (gx t) h) := by
  intro ρ t a h w v h' rt rh he
  rw [Bool.and_eq_true, Bool.and_eq_true] at hk
  have k1 := beq_iff.1 hk.1.1
  have k2 := blt_iff.1 hk.1.2
  have k3 := blt_iff.1 hk.2
  obtain ⟨x, y, hl, hx, hy⟩ := opds_two hx
  have rx := opd_rel hx rt
  have ry := opd_rel hy rt
  obtain ⟨cs, hex⟩ := exec_builtin ho hc a.eval
  obtain ⟨i, zv, zl, hi, hzv, hzc, hzr⟩ := tyZero_info hz
  obtain ⟨i1, hi1, hs1⟩ := tySize_info hs
  obtain ⟨i2, hi2, hb2⟩ := tyBytes_info hb
  rw [hi] at hi1 hi2
  injection hi1 with hi1
  injection hi2 with hi2
  subst hi1 hi2
  have he : appendA om sz by_ (gs t) (gx t) h = .yes v h' := he
  unfold appendA at he
  split at he
  · cases he
  · rename_i n hn
    split at he
    · cases he
    · rename_i new hnew
      obtain ⟨l, hv, hll, hrun⟩ := srcCells_rel rh hnew hn (Nat.le_refl _) ry
      have hzsz : zv.cells.size = sz := by rw [hzc, List.size_toArray, (hzr ρ).length, k1]
      have hr := appRuns_src (P := P) (t := ty) (u := u) (ty := o.type) (X := a.eval y) (n := n) (l := l) (z := zv) (w := w) hu hu2 hi hzv hs1 hb2 k3 (srcLen_rel hn ry P) hll (hrun P w.drawn) (hrun P (w.drawn + 1))
      obtain ⟨r, w', ρ', e1, e2, e3⟩ := appendN_rel rh hr rx hv hll k2 hzsz he
      refine ⟨.value r, r, w', ρ', ?_, rfl, e2, e3⟩
      rw [hex, arr_of_toList ht, arr_of_toList hl]
      simp [builtin, e1]

theorem appendZ_ok {o : Oper} {c : Call} {ty u e : TypeId} {k : IntKind} {gs gx : Get} {sz by_ : Nat} {z : List AV} (ho : o.op = .call c) (hc : c.callee = .builtin .append) (ht : c.argTypes.toList = [ty, u]) (hx : opds c.args.toList = some [gs, gx])
    (hu : P.underlying ty = some (.slice e)) (hu2 : P.underlying u = some (.int k)) (hs : tySize P e = some sz) (hb : tyBytes P e = some by_) (hz : tyZero P e = .yes z)
    (hk : (Nat.beq z.length sz && Nat.blt 0 sz && Nat.blt by_ 1024) = true) : EffOk W om P o (appendZ om sz by_ z gs gx) := by
  intro ρ t a h w v h' rt rh he
  rw [Bool.and_eq_true, Bool.and_eq_true] at hk
  have k1 := beq_iff.1 hk.1.1
  have k2 := blt_iff.1 hk.1.2
  have k3 := blt_iff.1 hk.2
  obtain ⟨x, y, hl, hx, hy⟩ := opds_two hx
  have rx := opd_rel hx rt
  have ry := opd_rel hy rt
  obtain ⟨cs, hex⟩ := exec_builtin ho hc a.eval
  obtain ⟨i, zv, zl, hi, hzv, hzc, hzr⟩ := tyZero_info hz
  obtain ⟨i1, hi1, hs1⟩ := tySize_info hs
  obtain ⟨i2, hi2, hb2⟩ := tyBytes_info hb
  rw [hi] at hi1 hi2
  injection hi1 with hi1
  injection hi2 with hi2
  subst hi1 hi2
  unfold appendZ at he
  split at he
  · rename_i n hn
    obtain ⟨ki, ey⟩ := natOf_rel hn ry
    cases hlt : Nat.blt n 1073741824 with
    | false => rw [hlt] at he; cases he
    | true =>
      rw [hlt] at he
      simp only [cond_true] at he
      have hlt := blt_iff.1 hlt
      have hzsz : zv.cells.size = sz := by rw [hzc, List.size_toArray, (hzr ρ).length, k1]
      have hv := rep_rel n (hzr ρ)
      rw [← hzc] at hv
      have hr := appRuns_zeros (P := P) (t := ty) (u := u) (ty := o.type) (n := n) (z := zv) (w := w) (kq := ki) hu hu2 hi hzv hs1 hb2 k3 hlt k2 rfl
      have hll : (Builtin.zeroCells zv.cells n).toList.length = n * sz := by rw [Array.length_toList, size_zeroCells, hzsz]
      obtain ⟨r, w', ρ', e1, e2, e3⟩ := appendN_rel rh hr rx hv hll k2 hzsz he
      refine ⟨.value r, r, w', ρ', ?_, rfl, e2, e3⟩
      rw [hex, arr_of_toList ht, arr_of_toList hl]
      simp [builtin, ey, e1]
  · cases he

theorem slPlace_pos {v : AV} {b : Blk} {off len n : Nat} {X : Value} (h : slPlace v = some (b, off, len)) (hl : slLen v = some n) (hn : 0 < n) (r : VRel ρ v X) : len = n ∧ ∃ ad c, X = .slice (some ad) n c ∧ PRel ρ b off ad := by
  obtain ⟨ad, c, e, hp⟩ := slPlace_rel h r
  have : len = n := by
    unfold slPlace at h
    split at h
    · simp only [slLen] at hl; injection hl with hl; injection h with h; injection h with _ h; injection h with _ h; omega
    · simp only [slLen] at hl; injection hl with hl; injection h with h; injection h with _ h; injection h with _ h; omega
    · cases h
  subst this
  exact ⟨rfl, ad, c, e, hp hn⟩

theorem firstCells_zero {x : AV} {n sz : Nat} {X : Value} (h : srcLen x = some n) (r : VRel ρ x X) : ∀ (P : Program) (w : World), (Builtin.firstCells sz 0 X).run P w = .ok #[] w := by
  unfold srcLen at h
  intro P w
  split at h
  · obtain ⟨b, rfl, hb⟩ := r
    simp only [Builtin.firstCells, Sem.run_pure]
    congr 1
    apply Array.ext'
    simp
  · obtain ⟨ad, c, rfl⟩ := slLen_rel h r
    cases ad <;> simp [Builtin.firstCells, loadCells, loadCellsFrom]

theorem copy_ok {o : Oper} {c : Call} {ty e : TypeId} {ts : List TypeId} {gd gx : Get} {sz : Nat} (ho : o.op = .call c) (hc : c.callee = .builtin .copy) (ht : c.argTypes.toList = ty :: ts) (hx : opds c.args.toList = some [gd, gx])
    (hu : P.underlying ty = some (.slice e)) (hs : tySize P e = some sz) (hsz : Nat.blt 0 sz = true) : EffOk W om P o (fun t h => copyA om sz (gd t) (gx t) h) := by
  intro ρ t a h w v h' rt rh he
  have he : copyA om sz (gd t) (gx t) h = .yes v h' := he
  have hsz := blt_iff.1 hsz
  obtain ⟨x, y, hl, hx, hy⟩ := opds_two hx
  have rx := opd_rel hx rt
  have ry := opd_rel hy rt
  obtain ⟨cs, hex⟩ := exec_builtin ho hc a.eval
  unfold copyA at he
  split at he
  · rename_i dl xl hdl hxl
    rw [forceN_eq] at he
    have hmin : (bif Nat.ble xl dl then xl else dl) = Nat.min xl dl := by
      cases hb : Nat.ble xl dl with
      | true => have := ble_iff.1 hb; show xl = min xl dl; omega
      | false =>
        have : ¬ xl ≤ dl := fun e => by rw [ble_iff.2 e] at hb; cases hb
        show dl = min xl dl; omega
    rw [hmin] at he
    obtain ⟨ad0, c0, ex⟩ := slLen_rel hdl rx
    have hlenrun := srcLen_rel hxl ry P w
    split at he
    · rename_i hm
      injection he with e1 e2; subst e1 e2
      have hfc := firstCells_zero (sz := sz) hxl ry P w
      refine ⟨.value (.int .i64 0), .int .i64 0, w, ρ, ?_, rfl, rfl, Goes.refl rh⟩
      rw [hex, arr_of_toList ht, arr_of_toList hl]
      cases ad0 <;> simp [builtin, Builtin.copy_, ex, run_under hu, hlenrun, hm, run_sz hs, hfc, goInt, storeCells]
    · rename_i n hn0
      split at he
      · rename_i vs hvs
        split at he
        · rename_i b off len hp
          split at he
          · rename_i h2 hput
            injection he with e1 e2; subst e1 e2
            have hn1 : Nat.min xl dl ≠ 0 := fun e => hn0 e
            have hle1 : Nat.min xl dl ≤ xl := Nat.min_le_left _ _
            have hle2 : Nat.min xl dl ≤ dl := Nat.min_le_right _ _
            obtain ⟨l, hv, hll, hrun⟩ := srcCells_rel rh hvs hxl hle1 ry
            obtain ⟨_, ad, c1, ex, hpr⟩ := slPlace_pos hp hdl (by omega) rx
            have hne : vs ≠ [] := fun e => by
              have := hv.length
              rw [e, hll] at this
              rcases Nat.mul_eq_zero.1 this with q | q <;> omega
            obtain ⟨w', h1, h2⟩ := hPutN_rel rh hput hpr hv hne
            refine ⟨.value (.int .i64 ((Nat.min xl dl : Nat) : Int)), _, w', ρ, ?_, rfl, rfl, h2⟩
            have hrun := hrun P w.drawn
            have hrun : (Builtin.firstCells sz (Nat.min xl dl) (a.eval y)).run P w = .ok l.toArray w := hrun
            rw [hex, arr_of_toList ht, arr_of_toList hl]
            simp [builtin, Builtin.copy_, ex, run_under hu, hlenrun, run_sz hs, hrun, goInt, h1]
          · cases he
        · cases he
      · cases he
  · cases he

theorem clearSl_ok {o : Oper} {c : Call} {ty e : TypeId} {ts : List TypeId} {g : Get} {z : List AV} (ho : o.op = .call c) (hc : c.callee = .builtin .clear) (ht : c.argTypes.toList = ty :: ts) (hx : opds c.args.toList = some [g])
    (hu : P.underlying ty = some (.slice e)) (hz : tyZero P e = .yes z) (hzl : Nat.blt 0 z.length = true) : EffOk W om P o (fun t h => clearSl z (g t) h) := by
  intro ρ t a h w v h' rt rh he
  have he : clearSl z (g t) h = .yes v h' := he
  have hzl := blt_iff.1 hzl
  obtain ⟨x, hl, hx⟩ := opds_one hx
  have rx := opd_rel hx rt
  obtain ⟨cs, hex⟩ := exec_builtin ho hc a.eval
  obtain ⟨zv, l, hzv, hcells, hzr⟩ := tyZero_run hz
  unfold clearSl at he
  split at he
  · rename_i hsl
    injection he with e1 e2; subst e1 e2
    obtain ⟨ad, c0, ex⟩ := slLen_rel hsl rx
    refine ⟨.value (.tuple #[]), .tuple #[], w, ρ, ?_, rfl, ⟨[], rfl, rfl⟩, Goes.refl rh⟩
    rw [hex, arr_of_toList ht, arr_of_toList hl]
    cases ad <;> simp [builtin, Builtin.clear_, ex, run_under hu]
  · rename_i n hn0 hsl
    split at he
    · rename_i b off len hp
      split at he
      · rename_i h2 hput
        injection he with e1 e2; subst e1 e2
        have hn1 : n ≠ 0 := fun e => by first | exact hn0 e | (rw [e] at hsl; exact hn0 hsl)
        obtain ⟨_, ad, c1, ex, hpr⟩ := slPlace_pos hp hsl (by omega) rx
        have hv := rep_rel n (hzr ρ)
        have hne : repL z n ≠ [] := fun e => by
          have := repL_length z n
          rw [e] at this
          rcases Nat.mul_eq_zero.1 this.symm with q | q <;> omega
        obtain ⟨w', h1, h2⟩ := hPutN_rel rh hput hpr hv hne
        refine ⟨.value (.tuple #[]), .tuple #[], w', ρ, ?_, rfl, ⟨[], rfl, rfl⟩, h2⟩
        have h1 : (storeCells ad (Builtin.zeroCells zv.cells n).toList).run P w = .ok () w' := by rw [hcells]; exact h1 P
        rw [hex, arr_of_toList ht, arr_of_toList hl]
        cases n with
        | zero => exact absurd rfl hn1
        | succ n => simp [builtin, Builtin.clear_, ex, run_under hu, hzv, h1]
      · cases he
    · cases he
  · cases he

theorem clearMap_ok {o : Oper} {c : Call} {ty k e : TypeId} {ts : List TypeId} {g : Get} (ho : o.op = .call c) (hc : c.callee = .builtin .clear) (ht : c.argTypes.toList = ty :: ts) (hx : opds c.args.toList = some [g])
    (hu : P.underlying ty = some (.map k e)) : EffOk W om P o (fun t h => clearMap (g t) h) := by
  intro ρ t a h w v h' rt rh he
  have he : clearMap (g t) h = .yes v h' := he
  obtain ⟨x, hl, hx⟩ := opds_one hx
  have rx := opd_rel hx rt
  obtain ⟨cs, hex⟩ := exec_builtin ho hc a.eval
  unfold clearMap at he
  split at he
  · rename_i hg
    rw [hg] at rx
    have ex : a.eval x = .map none := rx
    injection he with e1 e2; subst e1 e2
    refine ⟨.value (.tuple #[]), .tuple #[], w, ρ, ?_, rfl, ⟨[], rfl, rfl⟩, Goes.refl rh⟩
    rw [hex, arr_of_toList ht, arr_of_toList hl]
    simp [builtin, Builtin.clear_, ex, run_under hu]
  · rename_i r hg
    rw [hg] at rx
    split at he
    · rename_i es cl hget
      injection he with e1 e2; subst e1 e2
      obtain ⟨L, hL, ex⟩ := rx
      obtain ⟨L', obj, e1, hblk, ⟨l, rfl, hle⟩, _⟩ := rh.objs r _ hget
      rw [hL] at e1; injection e1 with e1; subst e1
      refine ⟨.value (.tuple #[]), .tuple #[], _, ρ, ?_, rfl, ⟨[], rfl, rfl⟩, Goes.set rh hget hL rfl (obj := .map #[] cl) ⟨[], rfl, rfl⟩⟩
      rw [hex, arr_of_toList ht, arr_of_toList hl]
      simp [builtin, Builtin.clear_, ex, run_under hu, getMap hblk, setMap _ hblk]
    · cases he
  · cases he

theorem close_ok {o : Oper} {c : Call} {g : Get} (ho : o.op = .call c) (hc : c.callee = .builtin .close) (hx : opds c.args.toList = some [g]) : EffOk W om P o (fun t h => closeA (g t) h) := by
  intro ρ t a h w v h' rt rh he
  have he : closeA (g t) h = .yes v h' := he
  obtain ⟨x, hl, hx⟩ := opds_one hx
  have rx := opd_rel hx rt
  obtain ⟨cs, hex⟩ := exec_builtin ho hc a.eval
  unfold closeA at he
  split at he
  · rename_i r hg
    rw [hg] at rx
    split at he
    · rename_i hget
      injection he with e1 e2; subst e1 e2
      obtain ⟨L, hL, ex⟩ := rx
      obtain ⟨L', obj, e1, hblk, rfl, _⟩ := rh.objs r _ hget
      rw [hL] at e1; injection e1 with e1; subst e1
      refine ⟨.value (.tuple #[]), .tuple #[], _, ρ, ?_, rfl, ⟨[], rfl, rfl⟩, Goes.set rh hget hL rfl (obj := .chan 0 #[] true 0 0 false) rfl⟩
      rw [hex, arr_of_toList hl]
      have hmap : [x].toArray.map a.eval = #[.chan (some L.blk)] := by simp [ex]
      have hrun : (Builtin.close_ c.argTypes o.type #[.chan (some L.blk)]).run P w = .ok (.tuple #[]) { w with heap := w.heap.setIfInBounds L.blk (.chan 0 #[] true 0 0 false) } := by
        change Sem.run P (getObj L.blk >>= _) w = _
        simp [getChan hblk, setChan _ hblk]
      simp only [builtin, hmap, Sem.run_bind, hrun, Result.andThen_ok, Sem.run_pure]
    · cases he
  · cases he

/-! ### maps -/
def Scalar (D : TypeDesc) : Prop := D = .bool ∨ (∃ k, D = .int k) ∨ D = .string

theorem keyTy_scalar {n : Nat} {k : TypeId} (h : keyTy P n k = true) : ∃ D, P.underlying k = some D ∧ Scalar D := by
  unfold keyTy at h
  split at h
  · exact ⟨_, by assumption, .inl rfl⟩
  · exact ⟨_, by assumption, .inr (.inl ⟨_, rfl⟩)⟩
  · exact ⟨_, by assumption, .inr (.inr rfl)⟩
  · cases h

def ScV (X : Value) : Prop := (∃ b, X = .bool b) ∨ (∃ k n, X = .int k n) ∨ (∃ s, X = .string s)

theorem eqV_now {D : TypeDesc} {k : TypeId} {x y : AV} {b : Bool} {X Y : Value} (hu : P.underlying k = some D) (hs : Scalar D) (h : eqV P 40 k x y = .yes b) (hx : VRel ρ x X) (hy : VRel ρ y Y) :
    Instr.sameNow D X Y = some b ∧ (b = true → X = Y) ∧ ScV X := by
  unfold eqV at h
  rw [hu] at h
  rcases hs with rfl | ⟨q, rfl⟩ | rfl
  · simp only [] at h
    split at h
    · injection h with h; subst h
      cases hx
      cases hy
      exact ⟨rfl, fun e => (by rw [beq_iff_eq.1 e]), .inl ⟨_, rfl⟩⟩
    · cases h
  · simp only [] at h
    split at h
    · rename_i k1 m k2 n
      cases hk : eqK k1 k2 with
      | false => rw [hk] at h; cases h
      | true =>
        rw [hk] at h
        injection h with h; subst h
        have := eqK_iff.1 hk
        subst this
        cases hx
        cases hy
        rw [eqI_eq]
        exact ⟨by simp [Instr.sameNow], fun e => (by rw [beq_iff_eq.1 e]), .inr (.inl ⟨_, _, rfl⟩)⟩
    · cases h
  · simp only [] at h
    split at h
    · injection h with h; subst h
      obtain ⟨p, rfl, hp⟩ := hx
      obtain ⟨q, rfl, hq⟩ := hy
      have e := eqS_bytes hp hq
      have hbb : (p == q) = (p.toList == q.toList) := by
        rw [Bool.eq_iff_iff, bytes_beq, beq_iff_eq, ByteArray.toList_eq, ByteArray.toList_eq]
        exact ⟨fun h => by rw [h], fun h => ByteArray.ext (Array.toList_inj.mp h)⟩
      refine ⟨by simp [Instr.sameNow, hbb, e], fun ht => ?_, .inr (.inr ⟨_, rfl⟩)⟩
      rw [← e, ← hbb, bytes_beq] at ht
      rw [ht]
    · cases h

theorem lookE_rel {D : TypeDesc} {k : TypeId} {x : AV} {X : Value} (hu : P.underlying k = some D) (hs : Scalar D) (hx : VRel ρ x X) : ∀ (es : List AEntry) (l : List MapEntry) (i : Nat), ERel ρ es l →
    (lookE (eqV P 40 k) x es i = .miss → Instr.findNow D X l i = some none) ∧
    (∀ j e, lookE (eqV P 40 k) x es i = .hit j e → i ≤ j ∧ es[j - i]? = some e ∧ ∃ kv v, l[j - i]? = some ⟨kv, v, e.born⟩ ∧ Instr.findNow D X l i = some (some (j, v)) ∧ VRel ρ e.val v ∧ kv = X)
  | [], l, i, r => by
    rw [r]
    exact ⟨fun _ => rfl, fun j e h => by simp [lookE] at h⟩
  | e :: es, l, i, r => by
    obtain ⟨kv, v, rest, rfl, r1, r2, r3⟩ := r
    simp only [lookE]
    split
    · rename_i h
      obtain ⟨h1, h2, _⟩ := eqV_now hu hs h hx r1
      refine ⟨fun h => (by cases h), fun j e' hj => ?_⟩
      injection hj with e1 e2
      subst e1 e2
      exact ⟨Nat.le_refl _, by simp, kv, v, by simp, by simp [Instr.findNow, h1], r2, (h2 rfl).symm⟩
    · rename_i h
      obtain ⟨h1, _, _⟩ := eqV_now hu hs h hx r1
      obtain ⟨m1, m2⟩ := lookE_rel hu hs hx es rest (i + 1) r3
      refine ⟨fun hm => by simp [Instr.findNow, h1, m1 hm], fun j e' hj => ?_⟩
      obtain ⟨a1, a2, kv', v', a3, a4, a5, a6⟩ := m2 j e' hj
      have e1 : j - i = (j - (i + 1)) + 1 := by omega
      exact ⟨by omega, by rw [e1]; simpa using a2, kv', v', by rw [e1]; simpa using a3, by simp [Instr.findNow, h1, a4], a5, a6⟩
    · exact ⟨fun h => (by cases h), fun j e h => (by cases h)⟩

/-- A key's check, of one that is a truth, a number or a text: or of any that is no struct, array, interface. -/
theorem run_checkScalar {D : TypeDesc} {k : TypeId} (hu : P.underlying k = some D) (hs : Scalar D) (b : Bool) (X : Value) (w : World) : (Instr.checkKey b 10000 k X).run P w = .ok () w := by
  have key : ∀ n, (Instr.checkKey b (n + 1) k X).run P w = .ok () w := by
    intro n
    unfold Instr.checkKey
    simp only [Sem.run_bind, run_under hu, Result.andThen_ok]
    rcases hs with rfl | ⟨q, rfl⟩ | rfl <;> simp
  exact key 9999

theorem lookup_ok {o : Oper} {ty k e : TypeId} {x i : Operand} {gx gi : Get} {z : AV} {b : Bool} (ho : o.op = .lookup ty x i b) (hu : P.underlying ty = some (.map k e)) (hk : keyTy P 20 k = true) (hz : tyZeroV P e = .yes z) (hx : opd x = some gx) (hi : opd i = some gi) :
    ReadOk W om P o (lookA P k z b gx gi) := by
  intro ρ t a h w v rt rh he
  have rx := opd_rel hx rt
  have ri := opd_rel hi rt
  obtain ⟨D, hD, hsc⟩ := keyTy_scalar hk
  obtain ⟨zv, hzv, hzr⟩ := tyZeroV_run hz
  have okp : ∀ (u : AV) (q : Bool) (U : Value), okP b u q = .yes v → VRel ρ u U → VRel ρ v (if b then .tuple #[U, .bool q] else U) := by
    intro u q U h1 h2
    unfold okP at h1
    cases b with
    | true => injection h1 with h1; subst h1; exact ⟨[_, _], rfl, _, _, rfl, h2, _, _, rfl, rfl, rfl⟩
    | false => injection h1 with h1; subst h1; exact h2
  unfold lookA at he
  split at he
  · rename_i hg
    rw [hg] at rx
    have ex : a.eval x = .map none := rx
    refine ⟨_, w, ?_, okp _ _ _ he (hzr ρ), Goes.refl rh⟩
    simp [execOp, ho, Instr.lookup, ex, run_under hu, run_checkScalar hD hsc, run_findKey hD (show Instr.findNow D (a.eval i) [] 0 = some none from rfl), hzv]
  · rename_i r hg
    rw [hg] at rx
    split at he
    · rename_i es cl hget
      obtain ⟨L, hL, ex⟩ := rx
      obtain ⟨L', obj, e1, hblk, ⟨l, rfl, hle⟩, _⟩ := rh.objs r _ hget
      rw [hL] at e1; injection e1 with e1; subst e1
      obtain ⟨m1, m2⟩ := lookE_rel hD hsc ri es l 0 hle
      split at he
      · rename_i j en hj
        obtain ⟨_, _, kv, v', _, a4, a5, _⟩ := m2 _ _ hj
        refine ⟨_, w, ?_, okp _ _ _ he a5, Goes.refl rh⟩
        simp [execOp, ho, Instr.lookup, ex, run_under hu, getMap hblk, run_checkScalar hD hsc, run_findKey hD a4]
      · rename_i hm
        refine ⟨_, w, ?_, okp _ _ _ he (hzr ρ), Goes.refl rh⟩
        simp [execOp, ho, Instr.lookup, ex, run_under hu, getMap hblk, run_checkScalar hD hsc, run_findKey hD (m1 hm), hzv]
      · cases he
    · cases he
  · cases he

theorem lenMap_ok {o : Oper} {c : Call} {ty k e : TypeId} {ts : List TypeId} {g : Get} (ho : o.op = .call c) (hc : c.callee = .builtin .len) (ht : c.argTypes.toList = ty :: ts) (hx : opds c.args.toList = some [g])
    (hu : P.underlying ty = some (.map k e)) : ReadOk W om P o (lenMap g) := by
  intro ρ t a h w v rt rh he
  obtain ⟨x, hl, hx⟩ := opds_one hx
  have rx := opd_rel hx rt
  obtain ⟨cs, hex⟩ := exec_builtin ho hc a.eval
  have elen : ∀ {es : List AEntry} {l : List MapEntry}, ERel ρ es l → l.length = es.length := by
    intro es
    induction es with
    | nil => intro l r; rw [r]; rfl
    | cons e es ih => intro l r; obtain ⟨_, _, rest, rfl, _, _, r3⟩ := r; simp [ih r3]
  unfold lenMap at he
  split at he
  · rename_i hg
    rw [hg] at rx
    have ex : a.eval x = .map none := rx
    injection he with he; subst he
    refine ⟨.int .i64 0, w, ?_, rfl, Goes.refl rh⟩
    rw [hex, arr_of_toList ht, arr_of_toList hl]
    simp [builtin, Builtin.len_, ex, run_under hu, goInt]
  · rename_i r hg
    rw [hg] at rx
    split at he
    · rename_i es cl hget
      have := okN_yes he
      subst this
      obtain ⟨L, hL, ex⟩ := rx
      obtain ⟨L', obj, e1, hblk, ⟨l, rfl, hle⟩, _⟩ := rh.objs r _ hget
      rw [hL] at e1; injection e1 with e1; subst e1
      refine ⟨.int .i64 (es.length : Int), w, ?_, rfl, Goes.refl rh⟩
      rw [hex, arr_of_toList ht, arr_of_toList hl]
      simp [builtin, Builtin.len_, ex, run_under hu, goInt, getMap hblk, elen hle]
    · cases he
  · cases he

theorem sameBits_key {X : Value} (h : ScV X) : Instr.sameBits 10000 X X = true := by
  have key : ∀ n, Instr.sameBits (n + 1) X X = true := by
    intro n
    rcases h with ⟨b, rfl⟩ | ⟨k, m, rfl⟩ | ⟨s, rfl⟩
    · simp [Instr.sameBits]
    · simp [Instr.sameBits]
    · simp only [Instr.sameBits]; exact (bytes_beq _ _).2 rfl
  exact key 9999

theorem ERel.set {ρ : Rho} : ∀ {es : List AEntry} {l : List MapEntry} (j : Nat) (e : AEntry) (kv v : Value), ERel ρ es l → VRel ρ e.key kv → VRel ρ e.val v → (∀ e0, es[j]? = some e0 → e0.born = e.born) → ERel ρ (es.set j e) (l.set j ⟨kv, v, e.born⟩)
  | [], l, j, e, kv, v, r, _, _, _ => by rw [r]; simp [ERel]
  | e0 :: es, l, 0, e, kv, v, r, h1, h2, _ => by
    obtain ⟨k', v', rest, rfl, r1, r2, r3⟩ := r
    exact ⟨kv, v, rest, rfl, h1, h2, r3⟩
  | e0 :: es, l, j + 1, e, kv, v, r, h1, h2, h3 => by
    obtain ⟨k', v', rest, rfl, r1, r2, r3⟩ := r
    exact ⟨k', v', _, rfl, r1, r2, ERel.set j e kv v r3 h1 h2 fun e1 he => h3 e1 (by simpa using he)⟩
theorem ERel.push {ρ : Rho} : ∀ {es : List AEntry} {l : List MapEntry} (e : AEntry) (kv v : Value), ERel ρ es l → VRel ρ e.key kv → VRel ρ e.val v → ERel ρ (es ++ [e]) (l ++ [⟨kv, v, e.born⟩])
  | [], l, e, kv, v, r, h1, h2 => by rw [r]; exact ⟨kv, v, [], rfl, h1, h2, rfl⟩
  | e0 :: es, l, e, kv, v, r, h1, h2 => by
    obtain ⟨k', v', rest, rfl, r1, r2, r3⟩ := r
    exact ⟨k', v', _, rfl, r1, r2, ERel.push e kv v r3 h1 h2⟩

theorem modify_set {l : List MapEntry} {j : Nat} {e : MapEntry} (f : MapEntry → MapEntry) (h : l[j]? = some e) : (l.toArray.modify j f) = (l.set j (f e)).toArray := by
  apply Array.ext
  · simp
  · intro i h1 h2
    rw [Array.getElem_modify]
    simp only [List.getElem_toArray, List.getElem_set]
    split
    · rename_i hij; subst hij
      have := (List.getElem?_eq_some_iff.1 h).2
      rw [this]
    · rfl

theorem update_ok {o : Oper} {ty kt e : TypeId} {m k x : Operand} {gm gk gx : Get} (ho : o.op = .mapUpdate ty m k x ∨ o.op = .insert ty m k x) (hu : P.underlying ty = some (.map kt e)) (hk : keyTy P 20 kt = true) (hm : opd m = some gm) (hkk : opd k = some gk) (hx : opd x = some gx) :
    EffOk W om P o (updA P kt gm gk gx) := by
  intro ρ t a h w v h' rt rh he
  have rm := opd_rel hm rt
  have rk := opd_rel hkk rt
  have rx := opd_rel hx rt
  obtain ⟨D, hD, hsc⟩ := keyTy_scalar hk
  unfold updA at he
  split at he
  · rename_i r hg
    rw [hg] at rm
    split at he
    · rename_i es cl hget
      obtain ⟨L, hL, ex⟩ := rm
      obtain ⟨L', obj, e1, hblk, ⟨l, rfl, hle⟩, _⟩ := rh.objs r _ hget
      rw [hL] at e1; injection e1 with e1; subst e1
      obtain ⟨m1, m2⟩ := lookE_rel hD hsc rk es l 0 hle
      split at he
      · rename_i j en hj
        injection he with e1 e2; subst e1 e2
        obtain ⟨_, a2, kv, v', a3, a4, a5, a6⟩ := m2 _ _ hj
        simp only [Nat.sub_zero] at a2 a3
        subst a6
        have hkey : ScV (a.eval k) := by
          have hr : ∃ b, eqV P 40 kt (gk t) en.key = .yes b ∧ VRel ρ en.key (a.eval k) := by
            have : ∀ (es : List AEntry) (i j : Nat) (e : AEntry), lookE (eqV P 40 kt) (gk t) es i = .hit j e → eqV P 40 kt (gk t) e.key = .yes true := by
              intro es
              induction es with
              | nil => intro i j e h; simp [lookE] at h
              | cons e0 es ih =>
                intro i j e h
                simp only [lookE] at h
                split at h
                · rename_i hq; injection h with h1 h2; subst h2; exact hq
                · exact ih _ _ _ h
                · cases h
            have h1 := this es 0 j en hj
            have : ∀ (es : List AEntry) (l : List MapEntry) (j : Nat) (e0 : AEntry) (me : MapEntry), ERel ρ es l → es[j]? = some e0 → l[j]? = some me → VRel ρ e0.key me.key := by
              intro es
              induction es with
              | nil => intro l j e0 me r h; simp at h
              | cons e1 es ih =>
                intro l j e0 me r h h'
                obtain ⟨k', v', rest, rfl, r1, r2, r3⟩ := r
                cases j with
                | zero => simp at h h'; subst h h'; exact r1
                | succ j => exact ih rest j e0 me r3 (by simpa using h) (by simpa using h')
            exact ⟨true, h1, this es l j en _ hle a2 a3⟩
          obtain ⟨b, h1, h2⟩ := hr
          exact (eqV_now hD hsc h1 rk h2).2.2
        have hsb := sameBits_key hkey
        refine ⟨.skip, Go.undef, _, ρ, ?_, rfl, ⟨[], rfl, rfl⟩, Goes.set rh hget hL rfl (obj := .map (l.set j ⟨a.eval k, a.eval x, en.born⟩).toArray cl) ⟨_, rfl, ERel.set j ⟨gk t, gx t, en.born⟩ _ _ hle rk rx fun e0 he0 => by rw [a2] at he0; injection he0 with he0; rw [he0]⟩⟩
        have hmod := modify_set (fun e => { key := a.eval k, val := a.eval x, born := e.born }) a3
        have hmod : l.modify j (fun e => { key := a.eval k, val := a.eval x, born := e.born }) = l.set j ⟨a.eval k, a.eval x, en.born⟩ := by simpa using hmod
        rcases ho with ho | ho <;>
          simp [execOp, ho, Instr.mapUpdate, ex, run_under hu, getMap hblk, run_checkScalar hD hsc, run_findKey hD a4, Instr.keyThatStays, a3, hsb, hmod, setMap _ hblk]
      · rename_i hmiss
        injection he with e1 e2; subst e1 e2
        refine ⟨.skip, Go.undef, _, ρ, ?_, rfl, ⟨[], rfl, rfl⟩, Goes.set rh hget hL rfl (obj := .map (l ++ [(⟨a.eval k, a.eval x, cl⟩ : MapEntry)]).toArray (cl + 1)) ⟨_, rfl, ERel.push ⟨gk t, gx t, cl⟩ _ _ hle rk rx⟩⟩
        rcases ho with ho | ho <;>
          simp [execOp, ho, Instr.mapUpdate, ex, run_under hu, getMap hblk, run_checkScalar hD hsc, run_findKey hD (m1 hmiss), setMap _ hblk]
      · cases he
    · cases he
  · cases he
end
end Go.Ev
