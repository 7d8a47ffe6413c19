/-
  What is proved: an abstract operation looks at no temporary but its operands' (den_cong). No condition.
-/
import Derived.Test.YtpdmljkmfdkfgaaGreatEvP
namespace Go.Ev

section
variable {om : OM} {P : Program} {t t' : TT}

def AgreeOn (t t' : TT) (op : Op) : Prop := ∀ i, Operand.tmp i ∈ op.operands → i < 256 → TT.get (pth i) t = TT.get (pth i) t'

def ActCong (t t' : TT) : Act1 → Prop
  | .pure f => f t = f t'
  | .read f => f t = f t'
  | .alloc f => f t = f t'
  | .eff f => f t = f t'
  | .call x args => x t = x t' ∧ gets t args = gets t' args
  | .bad => True

theorem opd_cong {op : Op} (ha : AgreeOn t t' op) {x : Operand} {g : Get} (hx : opd x = some g) (hm : x ∈ op.operands) : g t = g t' := by
  cases x with
  | tmp i =>
    simp only [opd] at hx
    cases hi : okT i with
    | false => rw [hi] at hx; cases hx
    | true => rw [hi] at hx; injection hx with hx; subst hx; exact ha i hm (okT_lt hi)
  | const v =>
    simp only [opd] at hx
    cases hv : cv v with
    | no => rw [hv] at hx; cases hx
    | yes y => rw [hv] at hx; injection hx with hx; subst hx; rfl
  | global g' => simp only [opd] at hx; injection hx with hx; subst hx; rfl
  | func f => simp only [opd] at hx; injection hx with hx; subst hx; rfl

theorem opds_cong {op : Op} (ha : AgreeOn t t' op) : ∀ {xs : List Operand} {gs : List Get}, opds xs = some gs → (∀ x ∈ xs, x ∈ op.operands) → gets t gs = gets t' gs
  | [], gs, hx, _ => by simp only [opds] at hx; injection hx with hx; subst hx; rfl
  | x :: xs, gs, hx, hm => by
    simp only [opds] at hx
    cases h1 : opd x with
    | none => rw [h1] at hx; cases hx
    | some g =>
      rw [h1] at hx
      simp only [] at hx
      cases h2 : opds xs with
      | none => rw [h2] at hx; cases hx
      | some gs' =>
        rw [h2] at hx
        injection hx with hx; subst hx
        simp only [gets]
        rw [opd_cong ha h1 (hm x (by simp)), opds_cong ha h2 fun y hy => hm y (by simp [hy])]

theorem opdP_cong {op : Op} (ha : AgreeOn t t' op) : ∀ {xs : List (Nat × Operand)} {gs : List (Nat × Get)}, opdP xs = some gs → (∀ x ∈ xs, x.2 ∈ op.operands) → getsP t gs = getsP t' gs
  | [], gs, hx, _ => by simp only [opdP] at hx; injection hx with hx; subst hx; rfl
  | (i, x) :: xs, gs, hx, hm => by
    simp only [opdP] at hx
    cases h1 : opd x with
    | none => rw [h1] at hx; cases hx
    | some g =>
      rw [h1] at hx
      simp only [] at hx
      cases h2 : opdP xs with
      | none => rw [h2] at hx; cases hx
      | some gs' =>
        rw [h2] at hx
        injection hx with hx; subst hx
        simp only [getsP]
        rw [opd_cong ha h1 (hm (i, x) (by simp)), opdP_cong ha h2 fun y hy => hm y (by simp [hy])]

theorem opt_cong {op : Op} (ha : AgreeOn t t' op) {x : Option Operand} {g : Option Get} (hx : opt x = some g) (hm : ∀ y, x = some y → y ∈ op.operands) : g.map (· t) = g.map (· t') := by
  cases x with
  | none => simp only [opt] at hx; injection hx with hx; subst hx; rfl
  | some x =>
    simp only [opt] at hx
    cases h1 : opd x with
    | none => rw [h1] at hx; cases hx
    | some g' =>
      rw [h1] at hx; injection hx with hx; subst hx
      simp only [Option.map_some]
      rw [opd_cong ha h1 (hm x rfl)]

theorem builtinA_cong {op : Op} (ha : AgreeOn t t' op) {b : Builtin} {ts : List TypeId} {xs : List Operand} {gs : List Get} (hx : opds xs = some gs) (hm : ∀ x ∈ xs, x ∈ op.operands) : ActCong t t' (builtinA P om b ts gs) := by
  have one : ∀ g, gs = [g] → g t = g t' := fun g e => by
    have := opds_cong ha hx hm
    rw [e] at this
    injection this
  have two : ∀ g g', gs = [g, g'] → g t = g t' ∧ g' t = g' t' := fun g g' e => by
    have := opds_cong ha hx hm
    rw [e] at this
    injection this with h1 h2
    injection h2 with h2
    exact ⟨h1, h2⟩
  have more : ∀ g r, gs = g :: r → g t = g t' ∧ gets t r = gets t' r := fun g r e => by
    have := opds_cong ha hx hm
    rw [e] at this
    injection this with h1 h2
    exact ⟨h1, h2⟩
  unfold builtinA
  cases b <;> try trivial
  case len =>
    simp only []
    split
    · have e := one _ rfl
      split
      · show lenStr _ t = lenStr _ t'; simp only [lenStr, e]
      · show lenSl _ t = lenSl _ t'; simp only [lenSl, e]
      · rfl
      · show lenMap _ t = lenMap _ t'; funext h; simp only [lenMap, e]
      · trivial
    · trivial
  case cap =>
    simp only []
    split
    · have e := one _ rfl
      split
      · show capSl _ t = capSl _ t'; simp only [capSl, e]
      · trivial
    · trivial
  case append =>
    simp only []
    split
    · obtain ⟨e1, e2⟩ := two _ _ rfl
      split
      · split
        · split
          · rename_i sz by_ z _ _ _
            cases (Nat.beq z.length sz && Nat.blt 0 sz && Nat.blt by_ 1024) with
            | false => trivial
            | true => show appendZ om sz by_ z _ _ t = appendZ om sz by_ z _ _ t'; funext h; simp only [appendZ, e1, e2]
          · trivial
        · split
          · rename_i sz by_ z _ _ _
            cases (Nat.beq z.length sz && Nat.blt 0 sz && Nat.blt by_ 1024) with
            | false => trivial
            | true => show (fun h => appendA om sz by_ _ _ h) = (fun h => appendA om sz by_ _ _ h); funext h; simp only [e1, e2]
          · trivial
        · split
          · rename_i sz by_ z _ _ _
            cases (Nat.beq z.length sz && Nat.blt 0 sz && Nat.blt by_ 1024) with
            | false => trivial
            | true => show (fun h => appendA om sz by_ _ _ h) = (fun h => appendA om sz by_ _ _ h); funext h; simp only [e1, e2]
          · trivial
        · trivial
      · trivial
    · trivial
  case copy =>
    simp only []
    split
    · obtain ⟨e1, e2⟩ := two _ _ rfl
      split
      · split
        · rename_i sz _
          cases Nat.blt 0 sz with
          | false => trivial
          | true => show (fun h => copyA om sz _ _ h) = (fun h => copyA om sz _ _ h); funext h; simp only [e1, e2]
        · trivial
      · trivial
    · trivial
  case clear =>
    simp only []
    split
    · have e := one _ rfl
      split
      · split
        · rename_i z _
          cases Nat.blt 0 z.length with
          | false => trivial
          | true => show (fun h => clearSl z _ h) = (fun h => clearSl z _ h); funext h; simp only [e]
        · trivial
      · show (fun h => clearMap _ h) = (fun h => clearMap _ h); funext h; simp only [e]
      · trivial
    · trivial
  case close =>
    simp only []
    split
    · have e := one _ rfl
      show (fun h => closeA _ h) = (fun h => closeA _ h); funext h; simp only [e]
    · trivial
  case delete =>
    simp only []
    split
    · split <;> trivial
    · trivial
  case max =>
    simp only []
    split
    · obtain ⟨e1, e2⟩ := more _ _ rfl
      show fold2 max2 _ _ = fold2 max2 _ _; rw [e1, e2]
    · trivial
  case min =>
    simp only []
    split
    · obtain ⟨e1, e2⟩ := more _ _ rfl
      show fold2 min2 _ _ = fold2 min2 _ _; rw [e1, e2]
    · trivial

theorem convA_cong {src dst : TypeId} {g : Get} (e : g t = g t') : ActCong t t' (convA P om src dst g) := by
  unfold convA
  split
  · show convInt _ g t = convInt _ g t'; simp only [convInt, e]
  · show convStr g t = convStr g t'; simp only [convStr, e]
  · split
    · cases Nat.beq src dst with
      | false => trivial
      | true => show convMark g t = convMark g t'; funext h; simp only [convMark, e]
    · trivial
  · split
    · show convBytes g t = convBytes g t'; simp only [convBytes, e]
    · trivial
  · split
    · show convText om g t = convText om g t'; funext h; simp only [convText, e]
    · trivial
  · trivial

theorem intFn_cong {f : IntKind → Int → Int → OV} {gx gy : Get} (e1 : gx t = gx t') (e2 : gy t = gy t') : int2 f gx gy t = int2 f gx gy t' := by simp only [int2, e1, e2]

theorem den_cong {op : Op} (ha : AgreeOn t t' op) : ActCong t t' (den P om op) := by
  unfold den
  split
  case h_1 x =>
    split
    · rename_i g hg; show OV.yes (g t) = OV.yes (g t'); rw [opd_cong ha hg (by simp [Op.operands])]
    · trivial
  case h_2 x =>
    split
    · rename_i g hg; show OV.yes (g t) = OV.yes (g t'); rw [opd_cong ha hg (by simp [Op.operands])]
    · trivial
  case h_3 c x y =>
    split
    · rename_i gc gx gy hc hx hy
      have e1 := opd_cong ha hc (by simp [Op.operands])
      have e2 := opd_cong ha hx (by simp [Op.operands])
      have e3 := opd_cong ha hy (by simp [Op.operands])
      show pickA gc gx gy t = pickA gc gx gy t'; simp only [pickA, e1, e2, e3]
    · trivial
  case h_4 e =>
    split
    · exact rfl
    · trivial
  case h_5 ty x =>
    split
    · rename_i g hg
      have e := opd_cong ha hg (by simp [Op.operands])
      show boxA g t = boxA g t'; simp only [boxA, e]
    · trivial
  case h_6 ty parts =>
    split
    · rename_i z fields ps hz hu hp
      have e := opdP_cong ha hp (fun x hx => by simp [Op.operands]; exact ⟨x.1, by simpa using hx⟩)
      split
      · show buildA _ z ps t = buildA _ z ps t'; simp only [buildA, e]
      · trivial
    · rename_i z len e ps hz hu hp
      have e := opdP_cong ha hp (fun x hx => by simp [Op.operands]; exact ⟨x.1, by simpa using hx⟩)
      split
      · show buildA _ z ps t = buildA _ z ps t'; simp only [buildA, e]
      · trivial
    · trivial
  case h_7 ty len parts =>
    split
    · rename_i e ps hu hp
      have e := opdP_cong ha hp (fun x hx => by simp [Op.operands]; exact ⟨x.1, by simpa using hx⟩)
      split
      · rename_i n z hn hz
        cases (Nat.blt (len * n) 16777216 && Nat.beq z.length n) with
        | false => trivial
        | true => show buildSlA n len z ps t = buildSlA n len z ps t'; simp only [buildSlA, e]
      · trivial
    · trivial
  case h_8 ty x =>
    split
    · rename_i n g hn hg hx
      have e := opd_cong ha hx (by simp [Op.operands])
      show loadN om n _ t = loadN om n _ t'; funext h; simp only [loadN, e]
    · rename_i n g hn hg hx
      have e := opd_cong ha hx (by simp [Op.operands])
      show load1 om _ t = load1 om _ t'; funext h; simp only [load1, e]
    · trivial
  case h_9 ty x y =>
    split
    · trivial
    · rename_i n gx gy h0 hn hx hy
      have e1 := opd_cong ha hx (by simp [Op.operands])
      have e2 := opd_cong ha hy (by simp [Op.operands])
      show storeA n _ _ t = storeA n _ _ t'; funext h; simp only [storeA, e1, e2]
    · trivial
  case h_10 x =>
    split
    · rename_i g hg
      have e := opd_cong ha hg (by simp [Op.operands])
      show nilChk g t = nilChk g t'; simp only [nilChk, e]
    · trivial
  case h_11 op ty x y ty' =>
    split
    · rename_i gx gy hx hy
      have e1 := opd_cong ha hx (by simp [Op.operands])
      have e2 := opd_cong ha hy (by simp [Op.operands])
      split
      · show shl2 gx gy t = shl2 gx gy t'; simp only [shl2, e1, e2]
      · show shr2 gx gy t = shr2 gx gy t'; simp only [shr2, e1, e2]
      · split
        · split
          · exact intFn_cong e1 e2
          · trivial
        · show str2 _ gx gy t = str2 _ gx gy t'; simp only [str2, e1, e2]
        · cases (isK x || isK y) with
          | false => trivial
          | true =>
            simp only [cond_true]
            split
            · show eqNil _ gx gy t = eqNil _ gx gy t'; simp only [eqNil, e1, e2]
            · show eqNil _ gx gy t = eqNil _ gx gy t'; simp only [eqNil, e1, e2]
            · trivial
        · split
          · cases P.eqGuardType P.depth ty with
            | true => trivial
            | false => show eqvA P _ ty gx gy t = eqvA P _ ty gx gy t'; simp only [eqvA, e1, e2]
          · cases P.eqGuardType P.depth ty with
            | true => trivial
            | false => show eqvA P _ ty gx gy t = eqvA P _ ty gx gy t'; simp only [eqvA, e1, e2]
          · trivial
    · trivial
  case h_12 op ty x =>
    split
    · rename_i g hg
      have e := opd_cong ha hg (by simp [Op.operands])
      split
      · show negA g t = negA g t'; simp only [negA, e]
      · show comA g t = comA g t'; simp only [comA, e]
      · show notA g t = notA g t'; simp only [notA, e]
      · trivial
    · trivial
  case h_13 src dst x =>
    split
    · rename_i g hg; exact convA_cong (opd_cong ha hg (by simp [Op.operands]))
    · trivial
  case h_14 fn f c =>
    split
    · rename_i gf gc hf hc
      have e1 := opds_cong ha hf (fun x hx => by simp [Op.operands]; exact .inl (by simpa using hx))
      have e2 := opds_cong ha hc (fun x hx => by simp [Op.operands]; exact .inr (by simpa using hx))
      show OV.yes (.fn fn (gets t gf) (gets t gc)) = OV.yes (.fn fn (gets t' gf) (gets t' gc)); rw [e1, e2]
    · trivial
  case h_15 ty r =>
    split
    · exact rfl
    · split
      · rename_i k e g hu hr
        have e := opd_cong ha hr (by simp [Op.operands])
        show mkMapR _ t = mkMapR _ t'; simp only [mkMapR, e]
      · trivial
  case h_16 ty s =>
    split
    · rename_i d e g hu hs
      have e := opd_cong ha hs (by simp [Op.operands])
      split
      · show mkChan _ t = mkChan _ t'; simp only [mkChan, e]
      · trivial
    · trivial
  case h_17 ty l c =>
    split
    · rename_i e gl gc hu hl hc
      have e1 := opd_cong ha hl (by simp [Op.operands])
      have e2 := opd_cong ha hc (by simp [Op.operands])
      split
      · rename_i n z by_ hn hz hby
        cases (Nat.beq z.length n && Nat.blt by_ 1024) with
        | false => trivial
        | true => show mkSlice z _ _ t = mkSlice z _ _ t'; simp only [mkSlice, e1, e2]
      · trivial
    · trivial
  case h_18 ty x lo hi mx =>
    split
    · rename_i gx gl gh gm hx hl hh hm
      have e1 := opd_cong ha hx (by simp [Op.operands])
      have e2 := opt_cong ha hl (fun y e => by subst e; simp [Op.operands])
      have e3 := opt_cong ha hh (fun y e => by subst e; simp [Op.operands])
      have e4 := opt_cong ha hm (fun y e => by subst e; simp [Op.operands])
      split
      · trivial
      · split
        · rename_i n hn
          cases (gm.isSome && gh.isNone) with
          | true => trivial
          | false => show sliceSl n gx gl gh gm t = sliceSl n gx gl gh gm t'; simp only [sliceSl, e1, e2, e3, e4]
        · trivial
      · rename_i len _ _
        split
        · rename_i n hn
          cases (gm.isSome && gh.isNone) with
          | true => trivial
          | false => show sliceArr n len gx gl gh gm t = sliceArr n len gx gl gh gm t'; simp only [sliceArr, e1, e2, e3, e4]
        · trivial
      · trivial
    · trivial
  case h_19 ty x f =>
    split
    · rename_i fields g hu hx
      have e := opd_cong ha hx (by simp [Op.operands])
      split
      · split
        · trivial
        · show fieldAddrA _ _ t = fieldAddrA _ _ t'; simp only [fieldAddrA, e]
        · trivial
      · trivial
    · trivial
  case h_20 ty x f =>
    split
    · rename_i fields g hu hx
      have e := opd_cong ha hx (by simp [Op.operands])
      split
      · split
        · show fieldA _ _ _ _ t = fieldA _ _ _ _ t'; simp only [fieldA, e]
        · trivial
      · trivial
    · trivial
  case h_21 ty x i =>
    split
    · rename_i e gx gi hu hx hi
      have e1 := opd_cong ha hx (by simp [Op.operands])
      have e2 := opd_cong ha hi (by simp [Op.operands])
      split
      · show indexSl _ _ _ t = indexSl _ _ _ t'; simp only [indexSl, e1, e2]
      · trivial
    · rename_i len e gx gi hu hx hi
      have e1 := opd_cong ha hx (by simp [Op.operands])
      have e2 := opd_cong ha hi (by simp [Op.operands])
      split
      · show indexArr _ _ _ _ t = indexArr _ _ _ _ t'; simp only [indexArr, e1, e2]
      · trivial
    · trivial
  case h_22 ty x i =>
    split
    · rename_i gx gi hu hx hi
      have e1 := opd_cong ha hx (by simp [Op.operands])
      have e2 := opd_cong ha hi (by simp [Op.operands])
      show indexStr _ _ t = indexStr _ _ t'; simp only [indexStr, e1, e2]
    · rename_i len e gx gi hu hx hi
      have e1 := opd_cong ha hx (by simp [Op.operands])
      have e2 := opd_cong ha hi (by simp [Op.operands])
      split
      · show indexAgg _ _ _ _ _ t = indexAgg _ _ _ _ _ t'; simp only [indexAgg, e1, e2]
      · trivial
    · trivial
  case h_23 ty x i ok =>
    split
    · rename_i k e gx gi hu hx hi
      have e1 := opd_cong ha hx (by simp [Op.operands])
      have e2 := opd_cong ha hi (by simp [Op.operands])
      split
      · cases keyTy P 20 k with
        | false => trivial
        | true => show lookA P _ _ _ _ _ t = lookA P _ _ _ _ _ t'; funext h; simp only [lookA, e1, e2]
      · trivial
    · trivial
  case h_24 ty m k x =>
    split
    · rename_i kt e gm gk gx hu hm hk hx
      have e1 := opd_cong ha hm (by simp [Op.operands])
      have e2 := opd_cong ha hk (by simp [Op.operands])
      have e3 := opd_cong ha hx (by simp [Op.operands])
      cases keyTy P 20 kt with
      | false => trivial
      | true => show updA P _ _ _ _ t = updA P _ _ _ _ t'; funext h; simp only [updA, e1, e2, e3]
    · trivial
  case h_25 ty m k x =>
    split
    · rename_i kt e gm gk gx hu hm hk hx
      have e1 := opd_cong ha hm (by simp [Op.operands])
      have e2 := opd_cong ha hk (by simp [Op.operands])
      have e3 := opd_cong ha hx (by simp [Op.operands])
      cases keyTy P 20 kt with
      | false => trivial
      | true => show updA P _ _ _ _ t = updA P _ _ _ _ t'; funext h; simp only [updA, e1, e2, e3]
    · trivial
  case h_29 x i =>
    split
    · rename_i g hg
      have e := opd_cong ha hg (by simp [Op.operands])
      show extrA _ _ t = extrA _ _ t'; simp only [extrA, e]
    · trivial
  case h_30 ty x =>
    split
    · trivial
    · rename_i d g hn hd hx
      have e := opd_cong ha hx (by simp [Op.operands])
      show ifaceA _ _ t = ifaceA _ _ t'; simp only [ifaceA, e]
    · trivial
  case h_32 c =>
    split
    · rename_i gs hgs
      have hm : ∀ x ∈ c.args.toList, x ∈ (Op.call c).operands := fun x hx => by simp [Op.operands, Call.operands]; exact .inr (by simpa using hx)
      split
      · rename_i f hc
        split
        · rename_i g hf; exact ⟨opd_cong ha hf (by simp [Op.operands, Call.operands, hc]), opds_cong ha hgs hm⟩
        · trivial
      · exact builtinA_cong ha hgs hm
      · trivial
    · trivial
  all_goals trivial
end
end Go.Ev
