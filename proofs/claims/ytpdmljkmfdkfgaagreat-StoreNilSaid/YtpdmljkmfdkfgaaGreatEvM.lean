/-
  What is proved: each operation of the model's code does what its abstract operation says (den_ok). No condition.
-/
import Derived.Test.YtpdmljkmfdkfgaaGreatEvL
namespace Go.Ev

section
variable {W : World} {om : OM} {P : Program}

def ActOk (W : World) (om : OM) (P : Program) (o : Oper) : Act1 → Prop
  | .pure f => PureOk P o f
  | .read f => ReadOk W om P o f
  | .alloc f => AllocOk P o f
  | .eff f => EffOk W om P o f
  | .call x args => ∃ c f, o.op = .call c ∧ c.callee = .value f ∧ opd f = some x ∧ opds c.args.toList = some args
  | .bad => True

theorem convStr_ok {o : Oper} {src dst : TypeId} {x : Operand} {g : Get} (ho : o.op = .convert src dst x) (hs : P.underlying src = some .string) (hd : P.underlying dst = some .string) (hx : opd x = some g) : PureOk P o (convStr g) := by
  intro ρ t a w v r h
  have rx := opd_rel hx r
  unfold convStr at h
  split at h
  · rename_i s hs'
    rw [hs'] at rx
    obtain ⟨b, ex, hb⟩ := rx
    injection h with h; subst h
    exact ⟨_, by simp [execOp, ho, convert, ex, run_under hs, run_under hd], b, rfl, hb⟩
  · cases h

theorem builtinA_ok {o : Oper} {c : Call} {b : Builtin} {gs : List Get} (ho : o.op = .call c) (hc : c.callee = .builtin b) (hx : opds c.args.toList = some gs) : ActOk W om P o (builtinA P om b c.argTypes.toList gs) := by
  unfold builtinA
  cases b <;> try trivial
  case len =>
    simp only []
    split
    · rename_i ty ts g heq
      split
      · rename_i hu; exact lenStr_ok ho hc heq hx hu
      · rename_i e hu; exact lenSl_ok ho hc heq hx hu
      · rename_i n e hu; exact lenArr_ok ho hc heq hx hu
      · rename_i k e hu; exact lenMap_ok ho hc heq hx hu
      · trivial
    · trivial
  case cap =>
    simp only []
    split
    · rename_i ty ts g heq
      split
      · rename_i e hu; exact capSl_ok ho hc heq hx hu
      · trivial
    · trivial
  case append =>
    simp only []
    split
    · rename_i ty u gs gx heq
      split
      · rename_i e du hu hu2
        split
        · rename_i k
          split
          · rename_i sz by_ z hs hb hz
            cases hk : (Nat.beq z.length sz && Nat.blt 0 sz && Nat.blt by_ 1024) with
            | false => trivial
            | true => exact appendZ_ok ho hc heq hx hu hu2 hs hb hz hk
          · trivial
        · rename_i e'
          split
          · rename_i sz by_ z hs hb hz
            cases hk : (Nat.beq z.length sz && Nat.blt 0 sz && Nat.blt by_ 1024) with
            | false => trivial
            | true => exact append_ok ho hc heq hx hu (.inl ⟨_, hu2⟩) hs hb hz hk
          · trivial
        · split
          · rename_i sz by_ z hs hb hz
            cases hk : (Nat.beq z.length sz && Nat.blt 0 sz && Nat.blt by_ 1024) with
            | false => trivial
            | true => exact append_ok ho hc heq hx hu (.inr hu2) hs hb hz hk
          · trivial
        · trivial
      · trivial
    · trivial
  case copy =>
    simp only []
    split
    · rename_i ty ts gd gx heq
      split
      · rename_i e hu
        split
        · rename_i sz hs
          cases hk : Nat.blt 0 sz with
          | false => trivial
          | true => exact copy_ok ho hc heq hx hu hs hk
        · trivial
      · trivial
    · trivial
  case clear =>
    simp only []
    split
    · rename_i ty ts g heq
      split
      · rename_i e hu
        split
        · rename_i z hz
          cases hk : Nat.blt 0 z.length with
          | false => trivial
          | true => exact clearSl_ok ho hc heq hx hu hz hk
        · trivial
      · rename_i k e hu; exact clearMap_ok ho hc heq hx hu
      · trivial
    · trivial
  case close =>
    simp only []
    split
    · exact close_ok ho hc hx
    · trivial
  case delete =>
    simp only []
    split
    · split <;> trivial
    · trivial
  case max =>
    simp only []
    split
    · exact max_ok ho hc hx
    · trivial
  case min =>
    simp only []
    split
    · exact min_ok ho hc hx
    · trivial

theorem convA_ok {o : Oper} {src dst : TypeId} {x : Operand} {g : Get} (ho : o.op = .convert src dst x) (hx : opd x = some g) : ActOk W om P o (convA P om src dst g) := by
  unfold convA
  split
  · rename_i ks k hs hd; exact convInt_ok ho hs hd hx
  · rename_i hs hd; exact convStr_ok ho hs hd hx
  · rename_i e1 e hs hd
    split
    · rename_i he
      cases hb : Nat.beq src dst with
      | false => trivial
      | true =>
        have := beq_iff.1 hb
        subst this
        exact convMark_ok ho hs hd he hx
    · trivial
  · rename_i e hs hd
    split
    · rename_i he; exact convBytes_ok ho hs hd he hx
    · trivial
  · rename_i e hs hd
    split
    · rename_i he; exact convText_ok ho hs hd he hx
    · trivial
  · trivial

theorem eqvA_none {o : Oper} {ty : TypeId} {b : Bool} {gx gy : Get} (hD : P.underlying ty = none) : PureOk P o (eqvA P b ty gx gy) := by
  intro ρ t a w v r h
  unfold eqvA eqV at h
  rw [hD] at h
  simp at h

theorem den_ok (o : Oper) : ActOk W om P o (den P om o.op) := by
  unfold den
  split
  case h_1 x hop =>
    split
    · rename_i g hg; exact move_ok (.inl hop) hg
    · trivial
  case h_2 x hop =>
    split
    · rename_i g hg; exact move_ok (.inr hop) hg
    · trivial
  case h_3 c x y hop =>
    split
    · rename_i gc gx gy hc hx hy; exact pick_ok hop hc hx hy
    · trivial
  case h_4 e hop =>
    split
    · rename_i z hz; exact alloc_ok hop hz
    · trivial
  case h_5 ty x hop =>
    split
    · rename_i g hg; exact box_ok hop hg
    · trivial
  case h_6 ty parts hop =>
    split
    · rename_i z fields ps hz hu hp
      split
      · rename_i pl hpl; exact buildS_ok hop hz hu hp hpl
      · trivial
    · rename_i z len e ps hz hu hp
      split
      · rename_i n hn; exact buildA_ok hop hz hu hp hn
      · trivial
    · trivial
  case h_7 ty len parts hop =>
    split
    · rename_i e ps hu hp
      split
      · rename_i n z hn hz
        cases hb : (Nat.blt (len * n) 16777216 && Nat.beq z.length n) with
        | false => trivial
        | true => exact buildSl_ok hop hu hn hz hp hb
      · trivial
    · trivial
  case h_8 ty x hop =>
    split
    · rename_i n g hn hg hx; exact loadN_ok hop hg hn hx
    · rename_i n g hn hg hx; exact load1_ok hop hg hn hx
    · trivial
  case h_9 ty x y hop =>
    split
    · trivial
    · rename_i n gx gy h0 hn hx hy; exact store_ok hop hn (fun e => by subst e; exact h0 rfl) hx hy
    · trivial
  case h_10 x hop =>
    split
    · rename_i g hg; exact nilChk_ok hop hg
    · trivial
  case h_11 op ty x y ty' hop =>
    split
    · rename_i gx gy hx hy
      split
      · exact shl_ok hop hx hy
      · exact shr_ok hop hx hy
      · rename_i hnl hnr
        split
        · rename_i k hu
          split
          · rename_i f hf; exact int_ok hop hx hy hf
          · trivial
        · exact str_ok hop hx hy
        · rename_i ms hu
          cases hk : (isK x || isK y) with
          | false => trivial
          | true =>
            simp only [cond_true]
            split
            · exact eqNil_ok false hop hx hy hu hk
            · exact eqNil_ok true hop hx hy hu hk
            · trivial
        · rename_i du hi hs hif
          split
          · cases hg : P.eqGuardType P.depth ty with
            | true => trivial
            | false =>
              simp only [cond_false]
              cases hD : P.underlying ty with
              | none => exact eqvA_none hD
              | some D => exact eqvA_ok false hop hx hy hD (fun k e => hi k (by rw [hD, e])) (fun e => hs (by rw [hD, e])) hg
          · cases hg : P.eqGuardType P.depth ty with
            | true => trivial
            | false =>
              simp only [cond_false]
              cases hD : P.underlying ty with
              | none => exact eqvA_none hD
              | some D => exact eqvA_ok true hop hx hy hD (fun k e => hi k (by rw [hD, e])) (fun e => hs (by rw [hD, e])) hg
          · trivial
    · trivial
  case h_12 op ty x hop =>
    split
    · rename_i g hg
      split
      · exact neg_ok hop hg
      · exact com_ok hop hg
      · exact not_ok hop hg
      · trivial
    · trivial
  case h_13 src dst x hop =>
    split
    · rename_i g hg; exact convA_ok hop hg
    · trivial
  case h_14 fn f c hop =>
    split
    · rename_i gf gc hf hc; exact func_ok hop hf hc
    · trivial
  case h_15 ty r hop =>
    split
    · exact makeMap_ok hop
    · rename_i r
      split
      · rename_i k e g hu hr; exact makeMapR_ok hop hu hr
      · trivial
  case h_16 ty s hop =>
    split
    · rename_i d e g hu hs
      split
      · rename_i n hb; exact makeChan_ok hop hu hb hs
      · trivial
    · trivial
  case h_17 ty l c hop =>
    split
    · rename_i e gl gc hu hl hc
      split
      · rename_i n z by_ hn hz hby
        cases hb : (Nat.beq z.length n && Nat.blt by_ 1024) with
        | false => trivial
        | true => exact makeSlice_ok hop hu hl hc hn hz hby hb
      · trivial
    · trivial
  case h_18 ty x lo hi mx hop =>
    split
    · rename_i gx gl gh gm hx hl hh hm
      split
      · trivial
      · rename_i e hu
        split
        · rename_i n hn
          cases hb : (gm.isSome && gh.isNone) with
          | true => trivial
          | false => exact sliceSl_ok hop hu hn hx hl hh hm hb
        · trivial
      · rename_i len e hu
        split
        · rename_i n hn
          cases hb : (gm.isSome && gh.isNone) with
          | true => trivial
          | false => exact sliceArr_ok hop hu hn hx hl hh hm hb
        · trivial
      · trivial
    · trivial
  case h_19 ty x f hop =>
    split
    · rename_i fields g hu hx
      split
      · rename_i fl hf
        split
        · trivial
        · rename_i n hn0 hn
          cases n with
          | zero => exact absurd rfl hn0
          | succ n => exact fieldAddr_ok hop hu hf hn hx
        · trivial
      · trivial
    · trivial
  case h_20 ty x f hop =>
    split
    · rename_i fields g hu hx
      split
      · rename_i fl hf
        split
        · rename_i n b hn hb; exact field_ok hop hu hf hn hb hx
        · trivial
      · trivial
    · trivial
  case h_21 ty x i hop =>
    split
    · rename_i e gx gi hu hx hi
      split
      · rename_i n hn; exact indexSl_ok hop hu hn hx hi
      · trivial
    · rename_i len e gx gi hu hx hi
      split
      · rename_i n hn; exact indexArr_ok hop hu hn hx hi
      · trivial
    · trivial
  case h_22 ty x i hop =>
    split
    · rename_i gx gi hu hx hi; exact indexStr_ok hop hu hx hi
    · rename_i len e gx gi hu hx hi
      split
      · rename_i n b hn hb; exact indexAgg_ok hop hu hn hb hx hi
      · trivial
    · trivial
  case h_23 ty x i ok hop =>
    split
    · rename_i k e gx gi hu hx hi
      split
      · rename_i z hz
        cases hk : keyTy P 20 k with
        | false => trivial
        | true => exact lookup_ok hop hu hk hz hx hi
      · trivial
    · trivial
  case h_24 ty m k x hop =>
    split
    · rename_i kt e gm gk gx hu hm hk hx
      cases hkt : keyTy P 20 kt with
      | false => trivial
      | true => exact update_ok (.inl hop) hu hkt hm hk hx
    · trivial
  case h_25 ty m k x hop =>
    split
    · rename_i kt e gm gk gx hu hm hk hx
      cases hkt : keyTy P 20 kt with
      | false => trivial
      | true => exact update_ok (.inr hop) hu hkt hm hk hx
    · trivial
  case h_29 x i hop =>
    split
    · rename_i g hg; exact extr_ok hop hg
    · trivial
  case h_30 ty x hop =>
    split
    · trivial
    · rename_i d g hn hd hx; exact iface_ok hop hd (fun ms e => hn ms e) hx
    · trivial
  case h_32 c hop =>
    split
    · rename_i gs hgs
      split
      · rename_i f hc
        split
        · rename_i g hf; exact ⟨c, f, hop, hc, hf, hgs⟩
        · trivial
      · rename_i b hc; exact builtinA_ok hop hc hgs
      · trivial
    · trivial
  all_goals trivial
end
end Go.Ev
