/-
  What is proved: what makes an object; conversions of bytes; maps; channels that are shut. No condition.
-/
import Derived.Test.YtpdmljkmfdkfgaaGreatEvH
import Derived.MapKept
import Derived.Laws.BytesString
import Derived.Conc.Events
namespace Go.Ev

section
variable {W : World} {om : OM} {P : Program} {ρ ρ' : Rho} {h h' : Hp} {w w' : World} {t : TT} {a : Act}

/-! ### what makes an object -/
theorem crel_ofL {vs : List AV} {l : List Value} (r : VRelL ρ vs l) : CRel ρ (Cells.ofL vs) 0 l.toArray := by
  intro i v hv
  obtain ⟨x, h1, h2⟩ := r.get (Cells.ofL_get hv)
  exact ⟨x, by simpa using h1, h2⟩

theorem orel_cells {vs : List AV} {l : List Value} {L : Loc} {ty : TypeId} (hs : L.sh = 0) (r : VRelL ρ vs l) : ORel ρ (.cells (Cells.ofL vs)) L (.cells l.toArray ty) :=
  ⟨_, _, _, rfl, .inl rfl, by rw [hs]; exact crel_ofL r⟩

theorem ptr0 {i : Nat} {L : Loc} (hs : L.sh = 0) (hL : ρ i = some L) : VRel ρ (.at (.ptr (.n i) 0)) (.pointer (some ⟨L.blk, 0, none⟩)) :=
  ⟨_, rfl, L, hL, by rw [hs]⟩

theorem alloc_ok {o : Oper} {ty : TypeId} {z : List AV} (ho : o.op = .alloc ty) (hz : tyZero P ty = .yes z) : AllocOk P o (fun _ => .yes (.cells (Cells.ofL z)) fun i => .at (.ptr (.n i) 0)) := by
  intro ρ t a w ob mk r h
  injection h with h1 h2
  subst h1 h2
  obtain ⟨zv, l, hzv, hcells, hl⟩ := tyZero_run hz
  refine ⟨.cells l.toArray ty, .pointer (some ⟨w.heap.size, 0, none⟩), ⟨w.heap.size, 0, 0, 0⟩, w.drawn, ?_, rfl, rfl, fun ρ' i _ hi => ⟨orel_cells rfl (hl ρ'), ptr0 rfl hi⟩⟩
  simp only [execOp, ho, Instr.alloc, Sem.run_bind, hzv, Result.andThen_ok, newVar, newRow, hcells, run_newObj_alloc, Sem.run_pure]
  rfl

theorem box_ok {o : Oper} {ty : TypeId} {x : Operand} {g : Get} (ho : o.op = .box ty x) (hx : opd x = some g) : AllocOk P o (boxA g) := by
  intro ρ t a w ob mk r h
  have rx := opd_rel hx r
  unfold boxA at h
  split at h
  · cases h
  · injection h with h1 h2
    subst h1 h2
    obtain ⟨l, hl, hr⟩ := rx.cells
    refine ⟨.cells l.toArray ty, .pointer (some ⟨w.heap.size, 0, none⟩), ⟨w.heap.size, 0, 0, 0⟩, w.drawn, ?_, rfl, rfl, fun ρ' i hle hi => ⟨orel_cells rfl (VRelL.mono hle _ _ hr), ptr0 rfl hi⟩⟩
    simp only [execOp, ho, Instr.box, Sem.run_bind, newVar, newRow, hl, run_newObj_alloc, Result.andThen_ok, Sem.run_pure]
    rfl

/-- Cells of nothing but noughts. -/
theorem rep_rel {z : List AV} {l : List Value} (n : Nat) (r : VRelL ρ z l) : VRelL ρ (repL z n) ((Array.range (n * l.toArray.size)).map (l.toArray[· % l.toArray.size]!)).toList := by
  have hl := r.length
  refine VRelL.of_get (by simp [repL_length, hl]) fun j v hv => ?_
  have hj : j < n * z.length := by rw [← repL_length z n]; exact (List.getElem?_eq_some_iff.1 hv).1
  rw [repL_get z n j hj] at hv
  obtain ⟨x, h1, h2⟩ := r.get hv
  refine ⟨x, ?_, h2⟩
  have hz : 0 < z.length := by rcases Nat.eq_zero_or_pos z.length with e | e; · rw [e] at hj; simp at hj
                               · exact e
  have hm : j % l.length < l.length := Nat.mod_lt _ (by omega)
  have hrg : (List.range (n * l.length))[j]? = some j := by rw [List.getElem?_eq_some_iff]; exact ⟨by rw [List.length_range, hl]; exact hj, by simp⟩
  simp only [Array.toList_map, Array.toList_range, List.getElem?_map, List.size_toArray, hrg, Option.map_some]
  rw [← hl] at h1
  rw [getElem!_pos l.toArray (j % l.length) (by simpa using hm)]
  rw [List.getElem?_eq_getElem hm] at h1
  simpa using h1

theorem buildSl_ok {o : Oper} {ty e : TypeId} {len n : Nat} {parts : Array (Nat × Operand)} {z : List AV} {ps : List (Nat × Get)} (ho : o.op = .buildSlice ty len parts) (hu : P.underlying ty = some (.slice e)) (hn : tySize P e = some n)
    (hz : tyZero P e = .yes z) (hp : opdP parts.toList = some ps) (hb : (Nat.blt (len * n) 16777216 && Nat.beq z.length n) = true) : AllocOk P o (buildSlA n len z ps) := by
  intro ρ t a w ob mk r h
  rw [Bool.and_eq_true] at hb
  have hb1 := blt_iff.1 hb.1
  have hb2 := beq_iff.1 hb.2
  unfold buildSlA at h
  split at h
  · rename_i cs hcs
    injection h with h1 h2
    subst h1 h2
    obtain ⟨e1, e2⟩ := parts_rel hp r
    obtain ⟨zv, l, hzv, hcells, hl⟩ := tyZero_run hz
    have hll := (hl ρ).length
    obtain ⟨l', e3, e4⟩ := fill_rel (ρ := ρ) _ _ _ _ _ _ hcs (rep_rel len (hl ρ)) e1 e2
    refine ⟨.cells l'.toArray e, .slice (some ⟨w.heap.size, 0, none⟩) len len, ⟨w.heap.size, 0, 0, 0⟩, w.drawn, ?_, rfl, rfl, fun ρ' i hle hi => ⟨orel_cells rfl (VRelL.mono hle _ _ e4), ⟨_, rfl, _, hi, rfl⟩⟩⟩
    have hsz : l.toArray.size = n := by simp [hll, hb2]
    rw [hsz] at e3
    rw [Array.toArray_toList] at e3
    have hbig : ¬ len * n > 2 ^ 24 := by omega
    by_cases h0 : len * n = 0
    · have e5 : Instr.fill (fun i => some (i * n, n)) ((Array.range (len * n)).map ((#[] : Array Value)[· % (#[] : Array Value).size]!)) (parts.map fun (i, x) => (i, a.eval x)).toList = some l'.toArray := by
        have e6 : ∀ f : Nat → Value, (Array.range 0).map f = #[] := fun f => by simp
        rw [h0, e6] at e3 ⊢
        exact e3
      simp only [execOp, ho, Instr.buildSlice, Sem.run_bind, run_under hu, Result.andThen_ok, run_sz hn, if_neg hbig, if_pos h0, Sem.run_pure, e5, newRow, run_newObj_alloc]
      rfl
    · rw [← hsz] at e3
      have e5 : Instr.fill (fun i => some (i * n, n)) ((Array.range (len * n)).map (l.toArray[· % l.toArray.size]!)) (parts.map fun (i, x) => (i, a.eval x)).toList = some l'.toArray := by rw [← hsz]; exact e3
      simp only [execOp, ho, Instr.buildSlice, Sem.run_bind, run_under hu, Result.andThen_ok, run_sz hn, if_neg hbig, if_neg h0, Sem.run_pure, hzv, hcells, e5, newRow, run_newObj_alloc]
      rfl
  · cases h

theorem makeMap_ok {o : Oper} {ty : TypeId} (ho : o.op = .makeMap ty none) : AllocOk P o (fun _ => .yes (.map [] 0) fun i => .at (.map i)) := by
  intro ρ t a w ob mk r h
  injection h with h1 h2
  subst h1 h2
  refine ⟨.map #[] 0, .map (some w.heap.size), ⟨w.heap.size, 0, 0, 0⟩, w.drawn, ?_, rfl, rfl, fun ρ' i _ hi => ⟨⟨[], rfl, rfl⟩, ⟨_, hi, rfl⟩⟩⟩
  simp only [execOp, ho, Instr.makeMap, Option.map_none, Sem.run_bind, run_newObj_alloc, Result.andThen_ok, Sem.run_pure]
  rfl

theorem makeMapR_ok {o : Oper} {ty k e : TypeId} {x : Operand} {g : Get} (ho : o.op = .makeMap ty (some x)) (hu : P.underlying ty = some (.map k e)) (hx : opd x = some g) : AllocOk P o (mkMapR g) := by
  intro ρ t a w ob mk r h
  have rx := opd_rel hx r
  unfold mkMapR at h
  split at h
  · rename_i ki n hk
    rw [hk] at rx
    have ex : a.eval x = .int ki n := rx
    injection h with h1 h2
    subst h1 h2
    refine ⟨.map #[] 0, .map (some w.heap.size), ⟨w.heap.size, 0, 0, 0⟩, w.drawn, ?_, rfl, rfl, fun ρ' i _ hi => ⟨⟨[], rfl, rfl⟩, ⟨_, hi, rfl⟩⟩⟩
    simp only [execOp, ho, Instr.makeMap, Option.map_some, ex, Sem.run_bind, run_under hu, asInt, asIntOf, run_newObj_alloc, Result.andThen_ok, Sem.run_pure]
    rfl
  · cases h

theorem makeChan_ok {o : Oper} {ty e : TypeId} {d : ChanDir} {x : Operand} {g : Get} {n : Nat} (ho : o.op = .makeChan ty x) (hu : P.underlying ty = some (.chan d e)) (hb : tyBytes P e = some n) (hx : opd x = some g) : AllocOk P o (mkChan g) := by
  intro ρ t a w ob mk r h
  have rx := opd_rel hx r
  unfold mkChan at h
  split at h
  · rename_i ki hk
    rw [hk] at rx
    have ex : a.eval x = .int ki 0 := rx
    injection h with h1 h2
    subst h1 h2
    obtain ⟨i, hi, _⟩ := tyBytes_info hb
    refine ⟨.chan 0 #[] false 0 0 false, .chan (some w.heap.size), ⟨w.heap.size, 0, 0, 0⟩, w.drawn, ?_, rfl, rfl, fun ρ' i _ hi => ⟨rfl, ⟨_, hi, rfl⟩⟩⟩
    have hno : ¬ ((0 : Int) < 0 ∨ (0 : Int) > IntKind.i64.max ∨ (i.bytes : Int) * 0 > 2 ^ 48 - 112) := by
      rw [show IntKind.i64.max = 9223372036854775807 from rfl]; omega
    simp only [execOp, ho, Instr.makeChan, ex, Sem.run_bind, run_under hu, asInt, asIntOf, typeInfo, run_program, hi, Result.andThen_ok, Sem.run_pure, if_neg hno, run_newObj_alloc]
    rfl
  · cases h

theorem i64_wrap {n : Nat} (h : n < 9223372036854775808) : IntKind.i64.wrap (n : Int) = n := by
  have this : wrap64 (Int.ofNat n) = .yes (.int .i64 (IntKind.i64.wrap (Int.ofNat n))) := wrap64_eq _
  change (bif Nat.ble n 9223372036854775807 then forceN n fun m => OV.yes (.int .i64 (.ofNat m)) else wrapS .i64 (Int.ofNat n)) = _ at this
  rw [ble_iff.2 (show n ≤ 9223372036854775807 by omega), cond_true, forceN_eq] at this
  injection this with this
  injection this with _ this
  exact this.symm

theorem makeSlice_ok {o : Oper} {ty e : TypeId} {l c : Operand} {gl gc : Get} {n by_ : Nat} {z : List AV} (ho : o.op = .makeSlice ty l c) (hu : P.underlying ty = some (.slice e)) (hl : opd l = some gl) (hc : opd c = some gc)
    (hn : tySize P e = some n) (hz : tyZero P e = .yes z) (hby : tyBytes P e = some by_) (hb : (Nat.beq z.length n && Nat.blt by_ 1024) = true) : AllocOk P o (mkSlice z gl gc) := by
  intro ρ t a w ob mk r h
  rw [Bool.and_eq_true] at hb
  have hb1 := beq_iff.1 hb.1
  have hb2 := blt_iff.1 hb.2
  have rl := opd_rel hl r
  have rc := opd_rel hc r
  unfold mkSlice at h
  split at h
  · rename_i ln cn hln hcn
    cases hbb : (Nat.ble ln cn && Nat.blt cn 1073741824) with
    | false => rw [hbb] at h; cases h
    | true =>
      rw [hbb] at h
      simp only [cond_true] at h
      injection h with h1 h2
      subst h1 h2
      rw [Bool.and_eq_true] at hbb
      have hle := ble_iff.1 hbb.1
      have hlt := blt_iff.1 hbb.2
      obtain ⟨kl, el⟩ := natOf_rel hln rl
      obtain ⟨kc, ec⟩ := natOf_rel hcn rc
      obtain ⟨inf, hi, hbytes⟩ := tyBytes_info hby
      obtain ⟨zv, zl, hzv, hcells, hzl⟩ := tyZero_run hz
      have hll := (hzl ρ).length
      have hsz : zl.toArray.size = n := by simp [hll, hb1]
      refine ⟨.cells ((Array.range (cn * n)).map (zl.toArray[· % zl.toArray.size]!)) e, .slice (some ⟨w.heap.size, 0, none⟩) ln cn, ⟨w.heap.size, 0, 0, 0⟩, w.drawn, ?_, rfl, rfl, fun ρ' i hle hi => ⟨⟨_, _, _, rfl, .inl rfl, ?_⟩, ⟨_, rfl, _, hi, rfl⟩⟩⟩
      · have w1 : IntKind.i64.wrap (ln : Int) = ln := i64_wrap (by omega)
        have w2 : IntKind.i64.wrap (cn : Int) = cn := i64_wrap (by omega)
        have hprod : (inf.bytes : Int) * (cn : Int) ≤ 1024 * 1073741824 := by
          have : inf.bytes * cn ≤ 1024 * 1073741824 := Nat.mul_le_mul (by omega) (by omega)
          have h2 := Int.ofNat_le.2 this
          rw [Int.natCast_mul] at h2
          omega
        have d1 : decide ((cn : Int) < 0) = false := decide_eq_false (by omega)
        have d2 : decide ((inf.bytes : Int) * cn > 2 ^ 48) = false := decide_eq_false (by omega)
        have d3 : decide ((ln : Int) < 0) = false := decide_eq_false (by omega)
        have d4 : decide ((ln : Int) > cn) = false := decide_eq_false (by omega)
        by_cases h0 : cn * n = 0
        · simp only [execOp, ho, Instr.makeSlice, el, ec, Sem.run_bind, run_under hu, asInt, asIntOf, typeInfo, run_program, hi, Result.andThen_ok, Sem.run_pure, w1, w2, d1, d2, d3, d4, Bool.or_false, Bool.false_eq_true, if_false, run_askRoom, Int.toNat_natCast, run_sz hn, if_pos h0, newRow, run_newObj_alloc]
          have e6 : ∀ f g : Nat → Value, (Array.range (cn * n)).map f = (Array.range (cn * n)).map g := fun f g => by rw [h0]; simp
          rw [e6 _ (fun x => zl.toArray[x % zl.toArray.size]!)]
          rfl
        · simp only [execOp, ho, Instr.makeSlice, el, ec, Sem.run_bind, run_under hu, asInt, asIntOf, typeInfo, run_program, hi, Result.andThen_ok, Sem.run_pure, w1, w2, d1, d2, d3, d4, Bool.or_false, Bool.false_eq_true, if_false, run_askRoom, Int.toNat_natCast, run_sz hn, if_neg h0, hzv, hcells, newRow, run_newObj_alloc]
          rfl
      · intro j v hv
        have := Cells.rep_get hv
        have hr := rep_rel cn (hzl ρ')
        rw [hsz] at hr
        obtain ⟨x, h1, h2⟩ := hr.get this
        exact ⟨x, by rw [Array.getElem?_toList] at h1; rw [hsz]; exact h1, h2⟩
  · cases h

/-! ### bytes and texts -/
theorem byteVals_rel {b : ByteArray} {s : List Nat} (h : b.data.toList.map UInt8.toNat = s) : VRelL ρ (byteVals s) (b.data.toList.map fun u => Value.int .u8 u.toNat) := by
  subst h
  unfold byteVals
  induction b.data.toList with
  | nil => rfl
  | cons u l ih => exact ⟨_, _, rfl, rfl, ih⟩

theorem convBytes_ok {o : Oper} {src dst e : TypeId} {x : Operand} {g : Get} (ho : o.op = .convert src dst x) (hs : P.underlying src = some .string) (hd : P.underlying dst = some (.slice e)) (he : P.underlying e = some (.int .u8)) (hx : opd x = some g) :
    AllocOk P o (convBytes g) := by
  intro ρ t a w ob mk r h
  have rx := opd_rel hx r
  unfold convBytes at h
  split at h
  · rename_i s hs'
    rw [hs'] at rx
    obtain ⟨b, ex, hb⟩ := rx
    rw [forceN_eq] at h
    injection h with h1 h2
    subst h1 h2
    have hlen := strs_eq hb
    let q : Question := .appendCap b.size 0 e
    let cap := q.cut (w.tape w.drawn q)
    have hcap : b.size ≤ cap := Nat.le_add_right _ _
    let cs : Array Value := (b.data.map fun u => Value.int .u8 u.toNat) ++ Array.replicate (cap - b.size) (.int .u8 0)
    have hcs : cs.size = cap := by
      show ((b.data.map _) ++ _).size = cap
      simp only [Array.size_append, Array.size_map, Array.size_replicate]
      have : b.data.size = b.size := rfl
      omega
    refine ⟨.cells cs e (cap, cap + 1), .slice (some ⟨w.heap.size, 0, none⟩) b.size cap, ⟨w.heap.size, 0, cap, 1⟩, w.drawn + 1, ?_, rfl, rfl, fun ρ' i hle hi => ⟨⟨cs, e, (cap, cap + 1), rfl, .inr (by rw [hcs]; exact Nat.le_refl _), ?_, hcs, rfl⟩,
      ⟨_, cap, 0, hi, rfl, ?_, by omega, by simp, .inr rfl⟩⟩⟩
    · have hf : q.forced = false := rfl
      have hfr : (World.freeze { (w.alloc (.cells cs e)) with drawn := w.drawn + 1 } ⟨w.heap.size, cap, none⟩ 1) = { w.alloc (.cells cs e (cap, cap + 1)) with drawn := w.drawn + 1 } := by
        unfold World.freeze World.alloc
        simp only [if_neg (show ¬ (1 : Nat) = 0 by omega)]
        congr 1
        apply Array.ext
        · simp
        · intro i h1 h2
          simp only [Array.getElem_modify, Array.getElem_push]
          split
          · rename_i e1
            subst e1
            simp
          · split
            · rfl
            · rename_i e1 e2
              simp at h1
              omega
      have hsh : (World.shape? { (w.alloc (.cells cs e)) with drawn := w.drawn + 1 } w.heap.size) = some (e, cap) := by
        unfold World.shape?
        rw [show ({ (w.alloc (.cells cs e)) with drawn := w.drawn + 1 } : World).heap[w.heap.size]? = some (.cells cs e) from World.alloc_heap_new w _]
        simp only [hcs]
      have hch : (choose q).run P w = .ok cap { w with drawn := w.drawn + 1 } := by rw [run_choose, hf]; rfl
      have hno : (newObj (.cells cs e)).run P { w with drawn := w.drawn + 1 } = .ok w.heap.size { (w.alloc (.cells cs e)) with drawn := w.drawn + 1 } := rfl
      simp only [execOp, ho, convert, ex, Sem.run_bind, run_under hs, run_under hd, run_under he, Result.andThen_ok, Conv.stringToBytes]
      rw [show (choose (Question.appendCap b.size 0 e)).run P w = .ok cap { w with drawn := w.drawn + 1 } from hch]
      simp only [Result.andThen_ok, newRow, Sem.run_bind]
      rw [show (newObj (.cells ((b.data.map fun u => Value.int .u8 u.toNat) ++ Array.replicate (cap - b.size) (.int .u8 0)) e)).run P { w with drawn := w.drawn + 1 } = .ok w.heap.size { (w.alloc (.cells cs e)) with drawn := w.drawn + 1 } from hno]
      simp only [Result.andThen_ok, Sem.run_pure, markStringish, Sem.run_bind, run_shape, hsh, run_freeze, hfr]
    · intro j v hv
      obtain ⟨x, h1, h2⟩ := (byteVals_rel (ρ := ρ') hb).get (Cells.ofL_get hv)
      refine ⟨x, ?_, h2⟩
      have hj : j < b.data.size := by have := (List.getElem?_eq_some_iff.1 h1).1; simpa using this
      show cs[j + 0]? = some x
      rw [Nat.add_zero, Array.getElem?_append_left (by simpa using hj)]
      simpa using h1
    · rw [hlen]
  · cases h

theorem bytesOf_rel : ∀ {vs : List AV} {s : List Nat} {l : List Value}, bytesOf vs = .yes s → VRelL ρ vs l → l = s.map (fun n : Nat => Value.int .u8 (n : Int)) ∧ ∀ n ∈ s, n < 256
  | [], s, l, h, r => by simp only [bytesOf] at h; injection h with h; subst h; exact ⟨r, fun n hn => by cases hn⟩
  | v :: vs, s, l, h, r => by
    obtain ⟨x, xs, rfl, r1, r2⟩ := r
    unfold bytesOf at h
    split at h
    · cases ‹_ :: _ = []›
    · rename_i n rest e
      injection e with e1 e2
      subst e1 e2
      cases hb : Nat.blt n 256 with
      | false => rw [hb] at h; cases h
      | true =>
        rw [hb] at h
        simp only [cond_true] at h
        split at h
        · rename_i l' hl'
          injection h with h; subst h
          obtain ⟨h1, h2⟩ := bytesOf_rel hl' r2
          have ex : x = .int .u8 (n : Int) := r1
          subst ex h1
          exact ⟨rfl, fun m hm => by rcases List.mem_cons.1 hm with e | e; · rw [e]; exact blt_iff.1 hb
                                     · exact h2 m e⟩
        · cases h
    · cases h

theorem pushes_data : ∀ (s : List Nat) (b : ByteArray), (s.foldl (fun (r : ByteArray) n => r.push (UInt8.ofNat n)) b).data.toList = b.data.toList ++ s.map UInt8.ofNat
  | [], b => by simp
  | n :: s, b => by
    simp only [List.foldl_cons]
    rw [pushes_data s (b.push (UInt8.ofNat n))]
    simp [ByteArray.push]

theorem convText_ok {o : Oper} {src dst e : TypeId} {x : Operand} {g : Get} (ho : o.op = .convert src dst x) (hs : P.underlying src = some (.slice e)) (hd : P.underlying dst = some .string) (he : P.underlying e = some (.int .u8)) (hx : opd x = some g) :
    ReadOk W om P o (convText om g) := by
  intro ρ t a h w v rt rh hv
  have rx := opd_rel hx rt
  unfold convText at hv
  split at hv
  · rename_i hg
    rw [hg] at rx
    have ex : a.eval x = .slice none 0 0 := rx
    injection hv with hv; subst hv
    refine ⟨.string .empty, w, ?_, ⟨_, rfl, rfl⟩, Goes.refl rh⟩
    simp [execOp, ho, convert, ex, run_under hs, run_under hd, run_under he, Conv.bytesToString]
  · split at hv
    · rename_i b off len hp
      split at hv
      · rename_i vs hvs
        split at hv
        · rename_i s hb
          injection hv with hv; subst hv
          obtain ⟨ad, c, ex, hpl⟩ := slPlace_rel hp rx
          have hex : ∃ l : List Value, VRelL ρ vs l ∧ ∀ P, (loadCells ad len).run P w = .ok l.toArray w := by
            rcases Nat.eq_zero_or_pos len with e0 | e0
            · subst e0
              obtain ⟨h1, _⟩ := hGetN_yes hvs
              have : vs = [] := by cases vs with | nil => rfl | cons => simp at h1
              subst this
              exact ⟨[], rfl, fun P => by simp [loadCells, loadCellsFrom]⟩
            · obtain ⟨l, h1, h2, h3, h4⟩ := hGetN_rel rh hvs (hpl e0)
              exact ⟨l, h1, h4⟩
          obtain ⟨l, h1, h4⟩ := hex
          obtain ⟨e1, e2⟩ := bytesOf_rel hb h1
          have hrun := run_bytesToString (P := P) w ad len c (s.map fun n : Nat => (n : Int)) (by rw [h4 P, e1]; simp [Function.comp_def])
          refine ⟨.string (s.foldl (fun (r : ByteArray) n => r.push (UInt8.ofNat n)) .empty), w, ?_, ⟨_, rfl, ?_⟩, Goes.refl rh⟩
          · rw [List.foldl_map] at hrun
            simp only [Int.toNat_natCast] at hrun
            simp only [execOp, ho, convert, ex, Sem.run_bind, run_under hs, run_under hd, run_under he, Result.andThen_ok, hrun, Sem.run_pure]
          · rw [pushes_data]
            have : ∀ s : List Nat, (∀ n ∈ s, n < 256) → (s.map UInt8.ofNat).map UInt8.toNat = s := by
              intro s hs
              induction s with
              | nil => rfl
              | cons n s ih =>
                simp only [List.map_cons, ih (fun m hm => hs m (by simp [hm]))]
                rw [UInt8.toNat_ofNat_of_lt' (hs n (by simp))]
            simpa using this s e2
        · cases hv
      · cases hv
    · cases hv

theorem convMark_ok {o : Oper} {src e1 e : TypeId} {x : Operand} {g : Get} (ho : o.op = .convert src src x) (hs : P.underlying src = some (.slice e1)) (hd : P.underlying src = some (.slice e)) (he : P.underlying e = some (.int .u8)) (hx : opd x = some g) :
    ReadOk W om P o (convMark g) := by
  intro ρ t a h w v rt rh hv
  have rx := opd_rel hx rt
  unfold convMark at hv
  split at hv
  · rename_i i off l c hg
    split at hv
    · rename_i cc hc
      injection hv with hv; subst hv
      rw [hg] at rx
      obtain ⟨ad, ex, hp⟩ := rx
      have hp' := hp
      obtain ⟨L, hL, rfl⟩ := hp
      obtain ⟨L', obj, e1', e2, ⟨cs, ty, fz, rfl, hf, h3⟩, _⟩ := rh.objs i _ hc
      rw [hL] at e1'; injection e1' with e1'; subst e1'
      let fz' : Nat × Nat := if fz.1 == fz.2 then (cs.size, cs.size + 1) else (min fz.1 cs.size, max fz.2 (cs.size + 1))
      have hfr : w.freeze ⟨L.blk, cs.size, none⟩ 1 = { w with heap := w.heap.setIfInBounds L.blk (.cells cs ty fz') } := by
        unfold World.freeze
        simp only [if_neg (show ¬ (1 : Nat) = 0 by omega)]
        have hlt := (Array.getElem?_eq_some_iff.1 e2).1
        have hbe := (Array.getElem?_eq_some_iff.1 e2).2
        congr 1
        apply Array.ext
        · simp
        · intro j h1 h2
          simp only [Array.getElem_modify]
          split
          · rename_i e; subst e
            obtain ⟨lo, hi⟩ := fz
            simp [hbe, fz']
          · rename_i e; exact (Array.getElem_setIfInBounds_ne (by simpa using h1) e).symm
      refine ⟨.slice (some ⟨L.blk, off + L.sh, none⟩) l c, { w with heap := w.heap.setIfInBounds L.blk (.cells cs ty fz') }, ?_, ⟨_, rfl, hp'⟩, ?_⟩
      · have hsh : w.shape? L.blk = some (ty, cs.size) := by unfold World.shape?; rw [e2]
        simp only [execOp, ho, convert, ex, Sem.run_bind, run_under hs, run_under he, Result.andThen_ok, markStringish, run_shape, hsh, run_freeze, hfr, Sem.run_pure, beq_self_eq_true]
        rw [hs] at hd
        injection hd with hd
        injection hd with hd
        subst hd
        simp only [run_under he, Result.andThen_ok, Sem.run_bind, run_shape, hsh, run_freeze, hfr, Sem.run_pure]
      · have hfree : Free cs.size fz' := by
          by_cases hq : fz.1 = fz.2
          · have e : fz' = (cs.size, cs.size + 1) := if_pos (by simpa using hq)
            rw [e]; exact .inr (Nat.le_refl _)
          · have e : fz' = (min fz.1 cs.size, max fz.2 (cs.size + 1)) := if_neg (by simpa using hq)
            rw [e]
            rcases hf with hf | hf
            · exact absurd hf hq
            · exact .inr (by simp; omega)
        exact Goes.turn rh hc hL rfl ⟨cs, ty, fz', rfl, hfree, h3⟩
    · cases hv
  · cases hv
end
end Go.Ev
