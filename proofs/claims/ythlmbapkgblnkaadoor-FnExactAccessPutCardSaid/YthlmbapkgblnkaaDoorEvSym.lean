/- Part of the proof of a statement about the given program: EvSym. No condition of its own. -/
import Derived.Test.YthlmbapkgblnkaaDoorEvCode
namespace Go.Ev
set_option linter.unusedVariables false
def vA (x : Option AV) : Option Act := x.map fun x => { val := x }
@[simp] theorem vA_some (x : AV) : vA (some x) = some { val := x } := rfl
variable (C : Ctx) (call : FuncId → List AV → Option AV) (fb : Nat) (s : St) (d : Option Tmp) (ty : TypeId) (ps : String) (af : Array Edge) (gd : Option (Nat × Bool))
theorem act_move {x} : act C call fb ⟨d, .move x, ty, ps, af, gd⟩ s = vA (opd C s.env ty x) := rfl
theorem act_assign {x} : act C call fb ⟨d, .assign x, ty, ps, af, gd⟩ s = vA (opd C s.env ty x) := rfl
theorem act_pick {c} {a} {b} : act C call fb ⟨d, .pick c a b, ty, ps, af, gd⟩ s = (opd C s.env ty c).bind fun c => match c with
    | .bool b' => vA (if b' then opd C s.env ty a else opd C s.env ty b)
    | _ => none := rfl
theorem act_alloc {e} : act C call fb ⟨d, .alloc e, ty, ps, af, gd⟩ s = (zeroC C.P 6 e).map fun cs => { val := .ptr fb 0 0, sw := [(fb, ⟨cs, 0, false, some (e, true)⟩)], nb := 1 } := rfl
theorem act_box {e} {x} : act C call fb ⟨d, .box e x, ty, ps, af, gd⟩ s = (opd C s.env e x).bind fun a => if a.cells.all AV.one then some { val := .ptr fb 0 0, sw := [(fb, ⟨a.cells, 0, false, none⟩)], nb := 1 } else none := rfl
theorem act_build {t} {parts} : act C call fb ⟨d, .build t parts, ty, ps, af, gd⟩ s = match fieldsT C.P t with
    | some fs => (zeroC C.P 6 t).bind fun z =>
      (parts.toList.mapM fun (p : Nat × Operand) => (fs[p.1]?).bind fun (f : Field) => (opd C s.env f.type p.2).map fun a => (f.offset, szT C.P f.type, a)).bind fun ps => vA ((fillA z ps).map .agg)
    | none => none := rfl
theorem act_buildSlice {t} {n} {parts} : act C call fb ⟨d, .buildSlice t n parts, ty, ps, af, gd⟩ s = (elemT C.P t).bind fun e => (zeroC C.P 6 e).bind fun z =>
      let sz := szT C.P e
      if 0 < sz ∧ z.length = sz ∧ n * sz ≤ 16777216 then
        (parts.toList.mapM fun (p : Nat × Operand) => if p.1 < n then (opd C s.env e p.2).map fun a => (p.1 * sz, sz, a) else none).bind fun ps =>
          (fillA (List.replicate n z).flatten ps).map fun cs => { val := .arr fb 0 0 n sz true, sw := [(fb, ⟨cs, 0, false, none⟩)], nb := 1 }
      else none := rfl
theorem act_load {t} {a} : act C call fb ⟨d, .load t a, ty, ps, af, gd⟩ s = (opd C s.env ty a).bind fun a => match a with
    | .ptr id g off => if g = (s.sto id).gen then (loadA C t ((s.sto id).cells.drop off)).map fun x => { val := x, sr := [id] } else none
    | .eptr cs => vA (loadA C t cs)
    | _ => none := rfl
theorem act_store {t} {a} {x} : act C call fb ⟨d, .store t a x, ty, ps, af, gd⟩ s = (opd C s.env ty a).bind fun a => (opd C s.env t x).bind fun x => match a with
    | .ptr id g off =>
      let b := s.sto id
      if g = b.gen ∧ b.froz = false ∧ x.cells.length = szT C.P t ∧ off + x.cells.length ≤ b.cells.length ∧ x.cells.all AV.one = true ∧ (C.P.info? t).isSome = true then some { val := .void, sr := [id], sw := [(id, { b with cells := spliceA b.cells off x.cells })] } else none
    | _ => none := rfl
theorem act_nilCheck {x} : act C call fb ⟨d, .nilCheck x, ty, ps, af, gd⟩ s = (opd C s.env ty x).bind fun a => match a with
    | .ptr _ _ _ | .eptr _ => vA (some a)
    | .fn _ _ => vA (some a)
    | _ => none := rfl
theorem act_binOp {op} {xt} {x} {y} {yt} : act C call fb ⟨d, .binOp op xt x y yt, ty, ps, af, gd⟩ s = (opd C s.env xt x).bind fun a => (opd C s.env (if op == .shl || op == .shr then yt else xt) y).bind fun b => vA (binX C xt y op a b) := rfl
theorem act_unOp {op} {xt} {x} : act C call fb ⟨d, .unOp op xt x, ty, ps, af, gd⟩ s = (opd C s.env xt x).bind fun a => vA (unA op a) := rfl
theorem act_convert {src} {dst} {x} : act C call fb ⟨d, .convert src dst x, ty, ps, af, gd⟩ s = (opd C s.env src x).bind fun a => convA C src dst s fb a := rfl
theorem act_makeFunc {fn} {first} {captured} : act C call fb ⟨d, .makeFunc fn first captured, ty, ps, af, gd⟩ s = match fn with
    | .func f => if first.isEmpty then (captured.toList.mapM fun x => opd C s.env 0 x).bind fun cs => if cs.all AV.one then vA (some (.fn f cs)) else none else none
    | _ => none := rfl
theorem act_makeInterface {t} {x} : act C call fb ⟨d, .makeInterface t x, ty, ps, af, gd⟩ s = (opd C s.env t x).bind fun _ => match C.P.underlying t with
    | some (.interface _) | none => none
    | _ => vA (some .iface) := rfl
theorem act_makeSlice {t} {l} {c} : act C call fb ⟨d, .makeSlice t l c, ty, ps, af, gd⟩ s = (elemT C.P t).bind fun e => (opd C s.env 3 l).bind fun l => (opd C s.env 3 c).bind fun c => match l, c with
    | .int k n, .int k' m => if n = m ∧ 0 ≤ n ∧ n ≤ most ∧ bytesT C.P e ≤ 128 ∧ k = .i64 ∧ k' = .i64 then (zeroC C.P 6 e).bind fun z => if z.length = szT C.P e ∧ 0 < z.length then some { val := .arr fb 0 0 n.toNat z.length true, sw := [(fb, ⟨(List.replicate n.toNat z).flatten, 0, false, none⟩)], nb := 1 } else none else none
    | _, _ => none := rfl
theorem act_slice {t} {x} {lo} {hi} {mx} : act C call fb ⟨d, .slice t x lo hi mx, ty, ps, af, gd⟩ s = (opd C s.env t x).bind fun a => (opds C s.env 3 lo).bind fun lo => (opds C s.env 3 hi).bind fun hi => (opds C s.env 3 mx).bind fun mx => if hi.isNone && mx.isSome then none else vA (sliceA C t a lo hi mx) := rfl
theorem act_fieldAddr {t} {x} {f} : act C call fb ⟨d, .fieldAddr t x f, ty, ps, af, gd⟩ s = (fieldsT C.P t).bind fun (fs : Array Field) => (fs[f]?).bind fun (f : Field) => if szT C.P f.type = 0 then none else (opd C s.env ty x).bind fun a => match a with
    | .ptr id g off => vA (some (.ptr id g (off + f.offset)))
    | .eptr cs => vA (some (.eptr (cs.drop f.offset)))
    | _ => none := rfl
theorem act_field {t} {x} {f} : act C call fb ⟨d, .field t x f, ty, ps, af, gd⟩ s = (fieldsT C.P t).bind fun (fs : Array Field) => (fs[f]?).bind fun (f : Field) => (opd C s.env t x).bind fun a => match a with
    | .agg cs => vA (loadA C f.type (cs.drop f.offset))
    | _ => none := rfl
theorem act_indexAddr {t} {x} {i} : act C call fb ⟨d, .indexAddr t x i, ty, ps, af, gd⟩ s = (opd C s.env t x).bind fun a => (opd C s.env 3 i).bind fun i => match a with
    | .slice sz xs => (idx i xs.length).bind fun i => (elemT C.P t).bind fun e => if sz = szT C.P e ∧ 0 < sz then vA ((xs[i]?).map fun x => .eptr x.cells) else none
    | .arr id g off n sz _ => (idx i n).bind fun i => (elemT C.P t).bind fun e => if sz = szT C.P e ∧ 0 < sz then vA (some (.ptr id g (off + i * sz))) else none
    | .eptr cs => match C.P.underlying t with
      | some (.array n e) => (idx i n).bind fun i => if 0 < szT C.P e then vA (some (.eptr (cs.drop (i * szT C.P e)))) else none
      | _ => none
    | .ptr id g off => match C.P.underlying t with
      | some (.array n e) => (idx i n).bind fun i => if 0 < szT C.P e then vA (some (.ptr id g (off + i * szT C.P e))) else none
      | _ => none
    | _ => none := rfl
theorem act_index {t} {x} {i} : act C call fb ⟨d, .index t x i, ty, ps, af, gd⟩ s = (opd C s.env t x).bind fun a => (opd C s.env 3 i).bind fun i => match a with
    | .str s => match C.P.underlying t with
      | some .string => (idx i s.size).bind fun i => vA ((s[i]?).map fun b => .int .u8 b.toNat)
      | _ => none
    | _ => none := rfl
theorem act_extract {t} {i} : act C call fb ⟨d, .extract t i, ty, ps, af, gd⟩ s = (opd C s.env 0 t).bind fun a => match a with
    | .tup vs => vA (vs[i]?)
    | _ => none := rfl
def isCall : Op → Bool
  | .call _ => true
  | _ => false
theorem loud_plain {o : Op} (h : isCall o = false) : loudCall C ⟨d, o, ty, ps, af, gd⟩ s = none := by
  unfold loudCall
  cases o <;> first | rfl | cases h
theorem loud_builtin {b : Builtin} {as : Array Operand} {ts : Array TypeId} : loudCall C ⟨d, .call ⟨.builtin b, as, ts⟩, ty, ps, af, gd⟩ s = none := rfl
theorem loud_value {f : Operand} {as : Array Operand} {ts : Array TypeId} : loudCall C ⟨d, .call ⟨.value f, as, ts⟩, ty, ps, af, gd⟩ s = (opd C s.env 0 f).bind fun f => (argsA C s.env as.toList ts.toList).bind fun args => match f with
      | .fn f cap => if C.share.contains f || (args ++ cap).any AV.loud then some (f, args ++ cap) else none
      | _ => none := rfl
theorem act_builtin {b : Builtin} {as : Array Operand} {ts : Array TypeId} : act C call fb ⟨d, .call ⟨.builtin b, as, ts⟩, ty, ps, af, gd⟩ s = (argsA C s.env as.toList ts.toList).bind fun args => builtinA C b ts.toList s fb args := rfl
theorem act_value {f : Operand} {as : Array Operand} {ts : Array TypeId} : act C call fb ⟨d, .call ⟨.value f, as, ts⟩, ty, ps, af, gd⟩ s = (opd C s.env 0 f).bind fun f => (argsA C s.env as.toList ts.toList).bind fun args => match f with
      | .fn f cap => if C.share.contains f || (args ++ cap).any AV.loud then none else let ids := ((args ++ cap).map (reachD s.toMem 2097152)).flatten; ((args ++ cap).mapM (snapD s.toMem 2097152)).bind fun l => (call f l).map fun r => { val := r, sr := ids, sw := frozV s r ids }
      | _ => none := rfl
variable (callI : FuncId → List AV → Mem → Option (AV × Mem)) (ops : Array Oper) (x : Op)
theorem step_plain (h : isCall x = false) : stepN C callI call ops ⟨d, x, ty, ps, af, none⟩ s = (act C call s.nid ⟨d, x, ty, ps, af, none⟩ s).map fun a => a.on d s := by
  unfold stepN
  rw [loud_plain C s d ty ps af none h]
  rfl
theorem step_call {c : Call} : stepN C callI call ops ⟨d, .call c, ty, ps, af, none⟩ s = match loudCall C ⟨d, .call c, ty, ps, af, none⟩ s with
      | some (f, args) => (callI f args s.toMem).map fun (r, m) => { m with env := putE s.env d r }
      | none => (act C call s.nid ⟨d, .call c, ty, ps, af, none⟩ s).map fun a => a.on d s := rfl
theorem putE_some (env : Nat → AV) (i : Nat) (a : AV) : putE env (some i) a = upd env i a := rfl
theorem putE_none (env : Nat → AV) (a : AV) : putE env none a = env := rfl
theorem upd_hit {α : Type} (f : Nat → α) (i : Nat) (a : α) : upd f i a i = a := by simp [upd]
theorem upd_miss {α : Type} (f : Nat → α) (i j : Nat) (a : α) (h : j ≠ i) : upd f i a j = f j := by simp [upd, h]
theorem isSome_act (x : Option (FuncId × List AV)) : True := trivial
end Go.Ev
namespace Go.Ev
set_option linter.unusedVariables false

/-- It comes to something, and that is so. -/
def Comes {α : Type} (x : Option α) (Q : α → Prop) : Prop := ∃ a, x = some a ∧ Q a

theorem comes_some {α : Type} {a : α} {Q : α → Prop} : Comes (some a) Q ↔ Q a := by simp [Comes]
theorem comes_none {α : Type} {Q : α → Prop} : Comes (none : Option α) Q ↔ False := by simp [Comes]
theorem comes_bind {α β : Type} {x : Option α} {f : α → Option β} {Q : β → Prop} : Comes (x.bind f) Q ↔ Comes x (fun a => Comes (f a) Q) := by
  cases x <;> simp [Comes]
theorem comes_map {α β : Type} {x : Option α} {f : α → β} {Q : β → Prop} : Comes (x.map f) Q ↔ Comes x (fun a => Q (f a)) := by
  cases x <;> simp [Comes]
theorem Comes.mono {α : Type} {x : Option α} {P Q : α → Prop} (h : Comes x P) (k : ∀ a, P a → Q a) : Comes x Q := by
  obtain ⟨a, h1, h2⟩ := h
  exact ⟨a, h1, k a h2⟩
theorem comes_eq {α : Type} {x : Option α} {a : α} : Comes x (fun b => b = a) ↔ x = some a := by simp [Comes]

/-- A mark that keeps simp out of the other arguments: a congruence whose hypothesis always changes. -/
def Mark {α : Type} (a : α) : α := a
@[go_sem] theorem mark_eq {α : Type} (a : α) : Mark a = a := Eq.trans (Eq.refl (Mark a)) (Eq.refl a)
theorem comes_congr {α : Type} {x y : Option α} {Q : α → Prop} (h : Mark x = y) : Comes x Q = Comes y Q := by rw [← h]; rfl

def exK (n : Nat) (Q : Ex × St → Prop) : Ex × St → Prop
  | (.exit k, s) => if k = n then Q (.normal, s) else Q (.exit k, s)
  | p => Q p

def thenK (f : St → Option (Ex × St)) (Q : Ex × St → Prop) : Ex × St → Prop
  | (.normal, s) => Comes (f s) Q
  | p => Q p

theorem thenK_n {f Q s} : thenK f Q (.normal, s) = Comes (f s) Q := rfl
theorem thenK_e {f Q s n} : thenK f Q (.exit n, s) = Q (.exit n, s) := rfl
theorem thenK_r {f Q s} : thenK f Q (.ret, s) = Q (.ret, s) := rfl
theorem exK_n {n Q s} : exK n Q (.normal, s) = Q (.normal, s) := rfl
theorem exK_r {n Q s} : exK n Q (.ret, s) = Q (.ret, s) := rfl
theorem exK_e {n Q s} : exK n Q (.exit n, s) = Q (.normal, s) := by simp [exK]
theorem exK_o {n k Q s} (h : k ≠ n) : exK n Q (.exit k, s) = Q (.exit k, s) := by simp [exK, h]

theorem comes_then {x : Option (Ex × St)} {f : St → Option (Ex × St)} {Q} : Comes (thenS x f) Q ↔ Comes x (thenK f Q) := by
  cases x with
  | none => simp [thenS, Comes]
  | some p => obtain ⟨e, s⟩ := p; cases e <;> simp [thenS, Comes, thenK]
theorem comes_block {x : Option (Ex × St)} {n : Nat} {Q} : Comes (blockS n x) Q ↔ Comes x (exK n Q) := by
  cases x with
  | none => simp [blockS, Comes]
  | some p =>
    obtain ⟨e, s⟩ := p
    cases e with
    | exit k =>
      by_cases h : k = n <;> simp [blockS, Comes, exK, h]
    | _ => simp [blockS, Comes, exK]

variable {C : Ctx} {callI : FuncId → List AV → Mem → Option (AV × Mem)} {call : FuncId → List AV → Option AV} {lp : (St → Option (Ex × St)) → St → Option (Ex × St)}
theorem c_skip {s Q} : Comes (evc C callI call lp .skip s) Q ↔ Q (.normal, s) := by simp [evc, Comes]
theorem c_exit {n s Q} : Comes (evc C callI call lp (.exit n) s) Q ↔ Q (.exit n, s) := by simp [evc, Comes]
theorem c_ret {s Q} : Comes (evc C callI call lp .ret s) Q ↔ Q (.ret, s) := by simp [evc, Comes]
theorem c_seq {a b s Q} : Comes (evc C callI call lp (.seq a b) s) Q ↔ Comes (evc C callI call lp a s) (thenK (evc C callI call lp b) Q) := comes_then
theorem c_block {n a s Q} : Comes (evc C callI call lp (.block n a) s) Q ↔ Comes (evc C callI call lp a s) (exK n Q) := comes_block
theorem c_loop {a s Q} : Comes (evc C callI call lp (.loop a) s) Q ↔ Comes (lp (evc C callI call lp a) s) Q := Iff.rfl
def toK (Q : Ex × St → Prop) : St → Prop := fun s => Q (.normal, s)
theorem toK_ap {Q s} : toK Q s = Q (.normal, s) := rfl
theorem c_reg {i ops s Q} : Comes (evc C callI call lp (.region i ops false) s) Q ↔ Comes (runT C callI call ops ops.toList s) (toK Q) := comes_map
theorem c_regD {i ops s Q} : Comes (evc C callI call lp (.region i ops true) s) Q ↔ Comes (runD C callI call ops s) (toK Q) := comes_map
theorem c_cond {c a b s Q} : Comes (evc C callI call lp (.cond c a b) s) Q ↔ Comes (condS (opd C s.env 0 c) (evc C callI call lp a) (evc C callI call lp b) s) Q := Iff.rfl
/-- A branch on what is not known yet: simp does not go into its arms. -/
def bB (b : Bool) (A B : Prop) : Prop := if b = true then A else B
theorem bB_congr {b b' : Bool} {A B : Prop} (h : Mark b = b') : bB b A B = bB b' A B := by rw [← h]; rfl
@[go_sem] theorem bB_true {A B : Prop} : bB true A B = A := by simp [bB]
@[go_sem] theorem bB_false {A B : Prop} : bB false A B = B := by simp [bB]
@[go_sem] theorem bB_not {b : Bool} {A B : Prop} : bB (!b) A B = bB b B A := by cases b <;> simp [bB]
theorem bB_split {b : Bool} {A B : Prop} (h1 : b = true → A) (h2 : b = false → B) : bB b A B := by cases b <;> simp [bB, *]
theorem c_if {t : Bool} {a b : St → Option (Ex × St)} {s Q} : Comes (condS (some (.bool t)) a b s) Q ↔ bB t (Comes (a s) Q) (Comes (b s) Q) := by
  cases t <;> simp [bB, condS]
theorem comes_pick {t : Bool} {α : Type} {x y : Option α} {Q : α → Prop} : Comes (if t = true then x else y) Q ↔ bB t (Comes x Q) (Comes y Q) := by
  cases t <;> simp [bB]
def runK (C : Ctx) (callI : FuncId → List AV → Mem → Option (AV × Mem)) (call : FuncId → List AV → Option AV) (ops : Array Oper) (l : List Oper) (Q : St → Prop) : St → Prop := fun s => Comes (runT C callI call ops l s) Q
theorem runK_ap {ops l Q s} : runK C callI call ops l Q s = Comes (runT C callI call ops l s) Q := rfl
theorem c_run0 {ops s} {Q : St → Prop} : Comes (runT C callI call ops [] s) Q ↔ Q s := comes_some
theorem c_run1 {ops o l s Q} : Comes (runT C callI call ops (o :: l) s) Q ↔ Comes (stepN C callI call ops o s) (runK C callI call ops l Q) := comes_bind

def onK (d : Option Tmp) (s : St) (Q : St → Prop) : Act → Prop := fun a => Q (a.on d s)
theorem onK_ap {d s Q a} : onK d s Q a = Q { env := putE s.env d a.val, sto := updL s.sto a.sw, nid := s.nid + a.nb } := rfl

def cK (d : Option Tmp) (env : Nat → AV) (Q : St → Prop) : AV × Mem → Prop := fun p => Q { p.2 with env := putE env d p.1 }
theorem cK_ap {d env Q r m} : cK d env Q (r, m) = Q { m with env := putE env d r } := rfl

variable {ops : Array Oper} {d : Option Tmp} {ty : TypeId} {ps : String} {af : Array Edge} {s : St} {Q : St → Prop}
theorem s_plain {x : Op} (h : isCall x = false) : Comes (stepN C callI call ops ⟨d, x, ty, ps, af, none⟩ s) Q ↔ Comes (act C call s.nid ⟨d, x, ty, ps, af, none⟩ s) (onK d s Q) := by
  rw [step_plain _ _ _ _ _ _ _ _ _ _ h]
  exact comes_map
theorem s_builtin {b : Builtin} {as : Array Operand} {ts : Array TypeId} : Comes (stepN C callI call ops ⟨d, .call ⟨.builtin b, as, ts⟩, ty, ps, af, none⟩ s) Q ↔ Comes (act C call s.nid ⟨d, .call ⟨.builtin b, as, ts⟩, ty, ps, af, none⟩ s) (onK d s Q) := comes_map

def loudK (C : Ctx) (callI : FuncId → List AV → Mem → Option (AV × Mem)) (call : FuncId → List AV → Option AV) (d : Option Tmp) (s : St) (Q : St → Prop) (f : AV) (args : List AV) : Prop :=
  match f with
  | .fn f cap => if C.share.contains f || (args ++ cap).any AV.loud then Comes (callI f (args ++ cap) s.toMem) (cK d s.env Q)
    else Comes ((args ++ cap).mapM (snapD s.toMem 2097152)) (fun l => Comes (call f l) (fun r => Q { env := putE s.env d r, sto := updL s.sto (frozV s r ((args ++ cap).map (reachD s.toMem 2097152)).flatten), nid := s.nid }))
  | _ => False
def argK (C : Ctx) (callI : FuncId → List AV → Mem → Option (AV × Mem)) (call : FuncId → List AV → Option AV) (d : Option Tmp) (s : St) (Q : St → Prop) (f : AV) : List AV → Prop := loudK C callI call d s Q f
theorem argK_ap {f l} : argK C callI call d s Q f l = loudK C callI call d s Q f l := rfl
theorem loudK_fn {f cap l} : loudK C callI call d s Q (.fn f cap) l = if C.share.contains f || (l ++ cap).any AV.loud then Comes (callI f (l ++ cap) s.toMem) (cK d s.env Q)
    else Comes ((l ++ cap).mapM (snapD s.toMem 2097152)) (fun a => Comes (call f a) (fun r => Q { env := putE s.env d r, sto := updL s.sto (frozV s r ((l ++ cap).map (reachD s.toMem 2097152)).flatten), nid := s.nid })) := rfl
def funK (C : Ctx) (callI : FuncId → List AV → Mem → Option (AV × Mem)) (call : FuncId → List AV → Option AV) (d : Option Tmp) (s : St) (Q : St → Prop) (as : Array Operand) (ts : Array TypeId) : AV → Prop := fun f => Comes (argsA C s.env as.toList ts.toList) (argK C callI call d s Q f)
theorem funK_ap {as ts f} : funK C callI call d s Q as ts f = Comes (argsA C s.env as.toList ts.toList) (argK C callI call d s Q f) := rfl
theorem s_value {f : Operand} {as : Array Operand} {ts : Array TypeId} : Comes (stepN C callI call ops ⟨d, .call ⟨.value f, as, ts⟩, ty, ps, af, none⟩ s) Q ↔ Comes (opd C s.env 0 f) (funK C callI call d s Q as ts) := by
  rw [step_call, loud_value, act_value]
  cases hf : opd C s.env 0 f with
  | none => simp [Comes]
  | some fv =>
    simp only [Option.bind_some, comes_some, funK_ap]
    cases ha : argsA C s.env as.toList ts.toList with
    | none => simp [Comes]
    | some l =>
      simp only [Option.bind_some, comes_some, argK_ap]
      cases fv with
      | fn f cap =>
        rw [loudK_fn]
        simp only
        by_cases hl : (C.share.contains f || (l ++ cap).any AV.loud) = true
        · simp only [if_pos hl, comes_map]
          rfl
        · simp only [if_neg hl, comes_map, comes_bind]
          rfl
      | _ => simp [Comes, loudK]

theorem comes_loop {b : St → Option (Ex × St)} {Q : Ex × St → Prop} (I : Nat → St → Prop) (step : ∀ k s, I k s → Comes (b s) (fun p => match p with
    | (.normal, s') => ∃ j, j < k ∧ I j s'
    | p => Q p)) : ∀ (k : Nat) (s : St), I k s → Comes (lpL b s) Q := by
  intro k
  induction k using Nat.strongRecOn with
  | ind k ih =>
    intro s hs
    obtain ⟨⟨e, s'⟩, h1, h2⟩ := step k s hs
    cases e with
    | normal =>
      obtain ⟨j, hj, hI⟩ := h2
      obtain ⟨r, h3, h4⟩ := ih j hj s' hI
      exact ⟨r, lpL_next h1 h3, h4⟩
    | exit n => exact ⟨_, lpL_stop h1 (by simp), h2⟩
    | ret => exact ⟨_, lpL_stop h1 (by simp), h2⟩

def cellA (C : Ctx) (s : St) (t : TypeId) : AV → Option AV
  | .ptr id g off => if g = (s.sto id).gen then loadA C t ((s.sto id).cells.drop off) else none
  | _ => none
def resL (C : Ctx) : List ResultVar → St → Option (List AV)
  | [], s => some []
  | .tmp t :: r, s => (resL C r s).map (s.env t :: ·)
  | .cell a t :: r, s => (cellA C s t (s.env a)).bind fun v => (resL C r s).map (v :: ·)
def packR : List AV → AV
  | [x] => x
  | vs => .tup vs
theorem packR_one {x : AV} : packR [x] = x := rfl
theorem packR_nil : packR [] = .tup [] := rfl
theorem packR_two {x y : AV} {l : List AV} : packR (x :: y :: l) = .tup (x :: y :: l) := rfl

theorem resA_eq {C : Ctx} {fn : Func} {s : St} : resA C fn s = (resL C fn.results.toList s).map packR := by
  have key : ∀ (P : List AV → AV), (∀ l, P l = packR l) → ∀ F : ResultVar → Option AV, (∀ t, F (.tmp t) = some (s.env t)) → (∀ a t, F (.cell a t) = cellA C s t (s.env a)) → ∀ l : List ResultVar, (l.mapM F).map P = (resL C l s).map packR := by
    intro P hP F h1 h2 l
    have e : l.mapM F = resL C l s := by
      induction l with
      | nil => rfl
      | cons r l ih =>
        simp only [List.mapM_cons, Option.bind_eq_bind, Option.pure_def, ih]
        cases r with
        | tmp t =>
          simp only [h1, Option.bind_some, resL]
          cases resL C l s <;> rfl
        | cell a t =>
          simp only [h2, resL]
          cases cellA C s t (s.env a) with
          | none => rfl
          | some v =>
            simp only [Option.bind_some]
            cases resL C l s <;> rfl
    rw [e, show P = packR from funext hP]
  unfold resA
  refine key _ (fun l => ?_) _ (fun t => rfl) (fun a t => ?_) _
  · cases l with
    | nil => rfl
    | cons x l => cases l <;> rfl
  · show (match s.env a with
      | .ptr id g off => if g = (s.sto id).gen then loadA C t ((s.sto id).cells.drop off) else none
      | _ => none) = _
    cases s.env a <;> rfl

variable {prim : FuncId → List AV → Option AV}
def endKI (C : Ctx) (f : FuncId) (rs : List ResultVar) (Q : AV × Mem → Prop) : Ex × St → Prop
  | (.exit _, _) => False
  | (_, s) => Comes (resL C rs s) fun l => Comes (snapI C f (packR l) s.toMem) Q
theorem endKI_r {f rs Q s} : endKI C f rs Q (.ret, s) = Comes (resL C rs s) fun l => Comes (snapI C f (packR l) s.toMem) Q := rfl
theorem endKI_n {f rs Q s} : endKI C f rs Q (.normal, s) = Comes (resL C rs s) fun l => Comes (snapI C f (packR l) s.toMem) Q := rfl
def endKF (C : Ctx) (rs : List ResultVar) (Q : AV → Prop) : Ex × St → Prop
  | (.exit _, _) => False
  | (_, s) => Comes (resL C rs s) fun l => Comes (snapD s.toMem 2097152 (packR l)) Q
theorem endKF_r {rs Q s} : endKF C rs Q (.ret, s) = Comes (resL C rs s) fun l => Comes (snapD s.toMem 2097152 (packR l)) Q := rfl
theorem endKF_n {rs Q s} : endKF C rs Q (.normal, s) = Comes (resL C rs s) fun l => Comes (snapD s.toMem 2097152 (packR l)) Q := rfl

/-- A function in its caller's memory. -/
theorem fnI_wp {f : FuncId} {fn : Func} {c : Code} {rs : List ResultVar} {l : List AV} {m : Mem} {Q : AV × Mem → Prop} (hf : C.P.funcs[f]? = some fn) (hb : fn.body = some c) (hr : fn.results.toList = rs) (hn : l.length ≤ fn.ntmps) (hpI : C.pI f l m = none) {l1 : List AV} {m1 : Mem} (hen : entryI C f l m = some (l1, m1))
    (h : Comes (evc C (fnI C prim) (fnA C prim) lpL c ⟨m1, fun i => l1.getD i .void⟩) (endKI C f rs Q)) : Comes (fnI C prim f l m) Q := by
  subst hr
  obtain ⟨⟨e, s⟩, h1, h2⟩ := h
  have key : ∃ r, resA C fn s = some r ∧ Comes (snapI C f r s.toMem) Q ∧ ∀ n, e ≠ .exit n := by
    cases e with
    | exit n => exact h2.elim
    | _ => obtain ⟨r, h3, h4⟩ := h2; exact ⟨packR r, by rw [resA_eq, h3]; rfl, h4, fun n h => by cases h⟩
  obtain ⟨r, h3, ⟨p, h4, h6⟩, h5⟩ := key
  refine ⟨p, fnI_body _ _ hpI ?_, h6⟩
  unfold bodyI
  simp only [hf, hb, if_pos hn, hen, Option.bind_some, enterA, h1]
  unfold endI
  cases e with
  | exit n => exact absurd rfl (h5 n)
  | _ => simp [h3, h4]

/-- A function that takes plain values, of values in blocks. -/
theorem fnI_snap {f : FuncId} {fn : Func} {c : Code} {l l1 : List AV} {m m1 : Mem} {Q : AV × Mem → Prop} (hf : C.P.funcs[f]? = some fn) (hb : fn.body = some c) (hn : l.length ≤ fn.ntmps) (hn1 : l1.length ≤ fn.ntmps) (hpI : C.pI f l m = none) (hpI1 : C.pI f l1 m1 = none)
    (hen : entryI C f l m = some (l1, m1)) (hen1 : entryI C f l1 m1 = some (l1, m1)) (h : Comes (fnI C prim f l1 m1) Q) : Comes (fnI C prim f l m) Q := by
  obtain ⟨p, h1, h2⟩ := h
  refine ⟨p, ?_, h2⟩
  obtain ⟨k, hk⟩ := of_lim h1
  refine lim_of (fun k r h => (ev_mono C prim k).1 _ _ _ _ h) (k := k) ?_
  cases k with
  | zero => simp [evI] at hk
  | succ k =>
    simp only [evI, hpI, hpI1] at hk ⊢
    unfold bodyI at hk ⊢
    simp only [hf, hb, if_pos hn, if_pos hn1, hen, hen1] at hk ⊢
    exact hk

/-- A function in a memory of its own. -/
theorem fnA_wp {f : FuncId} {fn : Func} {c : Code} {rs : List ResultVar} {l : List AV} {Q : AV → Prop} (hf : C.P.funcs[f]? = some fn) (hb : fn.body = some c) (hr : fn.results.toList = rs) (hn : l.length ≤ fn.ntmps) (hp : prim f l = none)
    (h : Comes (evc C (fnI C prim) (fnA C prim) lpL c ⟨.empty, fun i => l.getD i .void⟩) (endKF C rs Q)) : Comes (fnA C prim f l) Q := by
  subst hr
  obtain ⟨⟨e, s⟩, h1, h2⟩ := h
  have key : ∃ r, resA C fn s = some r ∧ Comes (snapD s.toMem 2097152 r) Q ∧ ∀ n, e ≠ .exit n := by
    cases e with
    | exit n => exact h2.elim
    | _ => obtain ⟨r, h3, h4⟩ := h2; exact ⟨packR r, by rw [resA_eq, h3]; rfl, h4, fun n h => by cases h⟩
  obtain ⟨r, h3, ⟨a, h4, h6⟩, h5⟩ := key
  refine ⟨a, fnA_body _ _ hp ?_, h6⟩
  unfold bodyF
  simp only [hf, hb, if_pos hn, enterA, h1]
  unfold endF
  cases e with
  | exit n => exact absurd rfl (h5 n)
  | _ => simp [h3, h4]
end Go.Ev
namespace Go.Ev
set_option linter.unusedVariables false
variable {C : Ctx} {callI : FuncId → List AV → Mem → Option (AV × Mem)} {call : FuncId → List AV → Option AV} {ops : Array Oper} {d : Option Tmp} {ty : TypeId} {ps : String} {af : Array Edge} {s : St} {Q : St → Prop}
def pickK (C : Ctx) (env : Nat → AV) (ty : TypeId) (a b : Operand) (K : Act → Prop) : AV → Prop
  | .bool t => bB t (Comes (vA (opd C env ty a)) K) (Comes (vA (opd C env ty b)) K)
  | _ => False
@[go_sem] theorem pickK_bool {env : Nat → AV} {a b : Operand} {K : Act → Prop} {t : Bool} : pickK C env ty a b K (.bool t) = bB t (Comes (vA (opd C env ty a)) K) (Comes (vA (opd C env ty b)) K) := rfl
theorem pick_iff {x : Option AV} {env : Nat → AV} {a b : Operand} {K : Act → Prop} : Comes (x.bind fun c => match c with
    | .bool b' => vA (if b' then opd C env ty a else opd C env ty b)
    | _ => none) K ↔ Comes x (pickK C env ty a b K) := by
  rw [comes_bind]
  cases x with
  | none => simp [Comes]
  | some c =>
    simp only [comes_some]
    cases c <;> simp only [pickK, comes_none]
    rename_i t
    cases t <;> simp [bB]
@[go_sem] theorem s_move {x} : Comes (stepN C callI call ops ⟨d, .move x, ty, ps, af, none⟩ s) Q ↔ Comes (vA (opd C s.env ty x)) (onK d s Q) := s_plain rfl
@[go_sem] theorem s_assign {x} : Comes (stepN C callI call ops ⟨d, .assign x, ty, ps, af, none⟩ s) Q ↔ Comes (vA (opd C s.env ty x)) (onK d s Q) := s_plain rfl
@[go_sem] theorem s_pick {c} {a} {b} : Comes (stepN C callI call ops ⟨d, .pick c a b, ty, ps, af, none⟩ s) Q ↔ Comes (opd C s.env ty c) (pickK C s.env ty a b (onK d s Q)) := by
  rw [s_plain rfl, act_pick]
  exact pick_iff
@[go_sem] theorem s_alloc {e} : Comes (stepN C callI call ops ⟨d, .alloc e, ty, ps, af, none⟩ s) Q ↔ Comes ((zeroC C.P 6 e).map fun cs => { val := .ptr s.nid 0 0, sw := [(s.nid, ⟨cs, 0, false, some (e, true)⟩)], nb := 1 }) (onK d s Q) := s_plain rfl
@[go_sem] theorem s_box {e} {x} : Comes (stepN C callI call ops ⟨d, .box e x, ty, ps, af, none⟩ s) Q ↔ Comes ((opd C s.env e x).bind fun a => if a.cells.all AV.one then some { val := .ptr s.nid 0 0, sw := [(s.nid, ⟨a.cells, 0, false, none⟩)], nb := 1 } else none) (onK d s Q) := s_plain rfl
theorem s_build {t} {parts} : Comes (stepN C callI call ops ⟨d, .build t parts, ty, ps, af, none⟩ s) Q ↔ Comes (match fieldsT C.P t with
    | some fs => (zeroC C.P 6 t).bind fun z =>
      (parts.toList.mapM fun (p : Nat × Operand) => (fs[p.1]?).bind fun (f : Field) => (opd C s.env f.type p.2).map fun a => (f.offset, szT C.P f.type, a)).bind fun ps => vA ((fillA z ps).map .agg)
    | none => none) (onK d s Q) := s_plain rfl
@[go_sem] theorem s_buildSlice {t} {n} {parts} : Comes (stepN C callI call ops ⟨d, .buildSlice t n parts, ty, ps, af, none⟩ s) Q ↔ Comes ((elemT C.P t).bind fun e => (zeroC C.P 6 e).bind fun z =>
      let sz := szT C.P e
      if 0 < sz ∧ z.length = sz ∧ n * sz ≤ 16777216 then
        (parts.toList.mapM fun (p : Nat × Operand) => if p.1 < n then (opd C s.env e p.2).map fun a => (p.1 * sz, sz, a) else none).bind fun ps =>
          (fillA (List.replicate n z).flatten ps).map fun cs => { val := .arr s.nid 0 0 n sz true, sw := [(s.nid, ⟨cs, 0, false, none⟩)], nb := 1 }
      else none) (onK d s Q) := s_plain rfl
@[go_sem] theorem s_load {t} {a} : Comes (stepN C callI call ops ⟨d, .load t a, ty, ps, af, none⟩ s) Q ↔ Comes ((opd C s.env ty a).bind fun a => match a with
    | .ptr id g off => if g = (s.sto id).gen then (loadA C t ((s.sto id).cells.drop off)).map fun x => { val := x, sr := [id] } else none
    | .eptr cs => vA (loadA C t cs)
    | _ => none) (onK d s Q) := s_plain rfl
@[go_sem] theorem s_store {t} {a} {x} : Comes (stepN C callI call ops ⟨d, .store t a x, ty, ps, af, none⟩ s) Q ↔ Comes ((opd C s.env ty a).bind fun a => (opd C s.env t x).bind fun x => match a with
    | .ptr id g off =>
      let b := s.sto id
      if g = b.gen ∧ b.froz = false ∧ x.cells.length = szT C.P t ∧ off + x.cells.length ≤ b.cells.length ∧ x.cells.all AV.one = true ∧ (C.P.info? t).isSome = true then some { val := .void, sr := [id], sw := [(id, { b with cells := spliceA b.cells off x.cells })] } else none
    | _ => none) (onK d s Q) := s_plain rfl
@[go_sem] theorem s_nilCheck {x} : Comes (stepN C callI call ops ⟨d, .nilCheck x, ty, ps, af, none⟩ s) Q ↔ Comes ((opd C s.env ty x).bind fun a => match a with
    | .ptr _ _ _ | .eptr _ => vA (some a)
    | .fn _ _ => vA (some a)
    | _ => none) (onK d s Q) := s_plain rfl
@[go_sem] theorem s_binOp {op} {xt} {x} {y} {yt} : Comes (stepN C callI call ops ⟨d, .binOp op xt x y yt, ty, ps, af, none⟩ s) Q ↔ Comes ((opd C s.env xt x).bind fun a => (opd C s.env (if op == .shl || op == .shr then yt else xt) y).bind fun b => vA (binX C xt y op a b)) (onK d s Q) := s_plain rfl
@[go_sem] theorem s_unOp {op} {xt} {x} : Comes (stepN C callI call ops ⟨d, .unOp op xt x, ty, ps, af, none⟩ s) Q ↔ Comes ((opd C s.env xt x).bind fun a => vA (unA op a)) (onK d s Q) := s_plain rfl
@[go_sem] theorem s_convert {src} {dst} {x} : Comes (stepN C callI call ops ⟨d, .convert src dst x, ty, ps, af, none⟩ s) Q ↔ Comes ((opd C s.env src x).bind fun a => convA C src dst s s.nid a) (onK d s Q) := s_plain rfl
@[go_sem] theorem s_makeFunc {fn} {first} {captured} : Comes (stepN C callI call ops ⟨d, .makeFunc fn first captured, ty, ps, af, none⟩ s) Q ↔ Comes (match fn with
    | .func f => if first.isEmpty then (captured.toList.mapM fun x => opd C s.env 0 x).bind fun cs => if cs.all AV.one then vA (some (.fn f cs)) else none else none
    | _ => none) (onK d s Q) := s_plain rfl
@[go_sem] theorem s_makeInterface {t} {x} : Comes (stepN C callI call ops ⟨d, .makeInterface t x, ty, ps, af, none⟩ s) Q ↔ Comes ((opd C s.env t x).bind fun _ => match C.P.underlying t with
    | some (.interface _) | none => none
    | _ => vA (some .iface)) (onK d s Q) := s_plain rfl
@[go_sem] theorem s_makeSlice {t} {l} {c} : Comes (stepN C callI call ops ⟨d, .makeSlice t l c, ty, ps, af, none⟩ s) Q ↔ Comes ((elemT C.P t).bind fun e => (opd C s.env 3 l).bind fun l => (opd C s.env 3 c).bind fun c => match l, c with
    | .int k n, .int k' m => if n = m ∧ 0 ≤ n ∧ n ≤ most ∧ bytesT C.P e ≤ 128 ∧ k = .i64 ∧ k' = .i64 then (zeroC C.P 6 e).bind fun z => if z.length = szT C.P e ∧ 0 < z.length then some { val := .arr s.nid 0 0 n.toNat z.length true, sw := [(s.nid, ⟨(List.replicate n.toNat z).flatten, 0, false, none⟩)], nb := 1 } else none else none
    | _, _ => none) (onK d s Q) := s_plain rfl
@[go_sem] theorem s_slice {t} {x} {lo} {hi} {mx} : Comes (stepN C callI call ops ⟨d, .slice t x lo hi mx, ty, ps, af, none⟩ s) Q ↔ Comes ((opd C s.env t x).bind fun a => (opds C s.env 3 lo).bind fun lo => (opds C s.env 3 hi).bind fun hi => (opds C s.env 3 mx).bind fun mx => if hi.isNone && mx.isSome then none else vA (sliceA C t a lo hi mx)) (onK d s Q) := s_plain rfl
theorem s_fieldAddr {t} {x} {f} : Comes (stepN C callI call ops ⟨d, .fieldAddr t x f, ty, ps, af, none⟩ s) Q ↔ Comes ((fieldsT C.P t).bind fun (fs : Array Field) => (fs[f]?).bind fun (f : Field) => if szT C.P f.type = 0 then none else (opd C s.env ty x).bind fun a => match a with
    | .ptr id g off => vA (some (.ptr id g (off + f.offset)))
    | .eptr cs => vA (some (.eptr (cs.drop f.offset)))
    | _ => none) (onK d s Q) := s_plain rfl
theorem s_field {t} {x} {f} : Comes (stepN C callI call ops ⟨d, .field t x f, ty, ps, af, none⟩ s) Q ↔ Comes ((fieldsT C.P t).bind fun (fs : Array Field) => (fs[f]?).bind fun (f : Field) => (opd C s.env t x).bind fun a => match a with
    | .agg cs => vA (loadA C f.type (cs.drop f.offset))
    | _ => none) (onK d s Q) := s_plain rfl
@[go_sem] theorem s_indexAddr {t} {x} {i} : Comes (stepN C callI call ops ⟨d, .indexAddr t x i, ty, ps, af, none⟩ s) Q ↔ Comes ((opd C s.env t x).bind fun a => (opd C s.env 3 i).bind fun i => match a with
    | .slice sz xs => (idx i xs.length).bind fun i => (elemT C.P t).bind fun e => if sz = szT C.P e ∧ 0 < sz then vA ((xs[i]?).map fun x => .eptr x.cells) else none
    | .arr id g off n sz _ => (idx i n).bind fun i => (elemT C.P t).bind fun e => if sz = szT C.P e ∧ 0 < sz then vA (some (.ptr id g (off + i * sz))) else none
    | .eptr cs => match C.P.underlying t with
      | some (.array n e) => (idx i n).bind fun i => if 0 < szT C.P e then vA (some (.eptr (cs.drop (i * szT C.P e)))) else none
      | _ => none
    | .ptr id g off => match C.P.underlying t with
      | some (.array n e) => (idx i n).bind fun i => if 0 < szT C.P e then vA (some (.ptr id g (off + i * szT C.P e))) else none
      | _ => none
    | _ => none) (onK d s Q) := s_plain rfl
@[go_sem] theorem s_index {t} {x} {i} : Comes (stepN C callI call ops ⟨d, .index t x i, ty, ps, af, none⟩ s) Q ↔ Comes ((opd C s.env t x).bind fun a => (opd C s.env 3 i).bind fun i => match a with
    | .str s => match C.P.underlying t with
      | some .string => (idx i s.size).bind fun i => vA ((s[i]?).map fun b => .int .u8 b.toNat)
      | _ => none
    | _ => none) (onK d s Q) := s_plain rfl
@[go_sem] theorem s_extract {t} {i} : Comes (stepN C callI call ops ⟨d, .extract t i, ty, ps, af, none⟩ s) Q ↔ Comes ((opd C s.env 0 t).bind fun a => match a with
    | .tup vs => vA (vs[i]?)
    | _ => none) (onK d s Q) := s_plain rfl

attribute [go_sem] snapI c_skip c_exit c_ret c_seq c_block c_loop c_reg c_cond c_if c_run0 c_run1 thenK_n thenK_e thenK_r exK_n exK_r exK_e exK_o toK_ap runK_ap onK_ap cK_ap s_builtin s_value argK_ap loudK_fn funK_ap comes_some comes_none comes_map comes_bind act_builtin vA_some putE_some putE_none updL upd_hit upd_miss endKI_r endKI_n endKF_r endKF_n Option.bind_some Option.map_some Option.bind_none Option.map_none
@[go_sem] theorem opd_tmp {env : Nat → AV} {t : TypeId} {i : Nat} : opd C env t (.tmp i) = some (env i) := rfl
@[go_sem] theorem opd_const {env : Nat → AV} {t : TypeId} {v : Value} : opd C env t (.const v) = cv1 C.P t v := rfl
@[go_sem] theorem opd_func {env : Nat → AV} {t : TypeId} {f : FuncId} : opd C env t (.func f) = some (.fn f []) := rfl
@[go_sem] theorem opd_glob {env : Nat → AV} {t : TypeId} {n : Nat} : opd C env t (.global n) = (C.glob n).map .eptr := rfl
@[go_sem] theorem empty_nid : Mem.empty.nid = 0 := rfl
@[go_sem] theorem empty_sto {i : Nat} : Mem.empty.sto i = ⟨[], 0, false, none⟩ := rfl
attribute [go_sem] cv1 List.getD_cons_zero List.getD_cons_succ AV.cells AV.one List.all_cons List.all_nil Bool.and_self Bool.and_true Bool.true_and if_true if_false ite_true ite_false reduceIte Nat.zero_add Nat.add_zero List.drop_zero List.drop_succ_cons List.take_succ_cons List.take_zero List.length_cons List.length_nil List.head?_cons true_and and_true decide_eq_true_eq Bool.false_eq_true binA unA List.headD Option.some.injEq List.getElem?_cons_zero List.getElem?_cons_succ

def fldA (P : Program) (t : TypeId) (f : Nat) : Option (Nat × TypeId) := (fieldsT P t).bind fun (fs : Array Field) => (fs[f]?).map fun (f : Field) => (f.offset, f.type)
@[go_sem] theorem s_fieldAddr' {t : TypeId} {x : Operand} {f : Nat} : Comes (stepN C callI call ops ⟨d, .fieldAddr t x f, ty, ps, af, none⟩ s) Q ↔ Comes ((fldA C.P t f).bind fun q => if szT C.P q.2 = 0 then none else (opd C s.env ty x).bind fun a => match a with
    | .ptr id g off => some { val := .ptr id g (off + q.1) }
    | .eptr cs => some { val := .eptr (cs.drop q.1) }
    | _ => none) (onK d s Q) := by
  rw [s_fieldAddr]
  unfold fldA
  cases fieldsT C.P t with
  | none => rfl
  | some fs =>
    simp only [Option.bind_some]
    cases fs[f]? with
    | none => rfl
    | some q => rfl
@[go_sem] theorem s_field' {t : TypeId} {x : Operand} {f : Nat} : Comes (stepN C callI call ops ⟨d, .field t x f, ty, ps, af, none⟩ s) Q ↔ Comes ((fldA C.P t f).bind fun q => (opd C s.env t x).bind fun a => match a with
    | .agg cs => vA (loadA C q.2 (cs.drop q.1))
    | _ => none) (onK d s Q) := by
  rw [s_field]
  unfold fldA
  cases fieldsT C.P t with
  | none => rfl
  | some fs =>
    simp only [Option.bind_some]
    cases fs[f]? with
    | none => rfl
    | some q => rfl
@[go_sem] theorem s_build' {t : TypeId} {parts : Array (Nat × Operand)} (hf : (fieldsT C.P t).isSome = true) : Comes (stepN C callI call ops ⟨d, .build t parts, ty, ps, af, none⟩ s) Q ↔ Comes ((zeroC C.P 6 t).bind fun z => (parts.toList.mapM fun (p : Nat × Operand) => (fldA C.P t p.1).bind fun q => (opd C s.env q.2 p.2).map fun a => (q.1, szT C.P q.2, a)).bind fun ps => (fillA z ps).map fun cs => { val := .agg cs }) (onK d s Q) := by
  rw [s_build]
  unfold fldA
  cases hf' : fieldsT C.P t with
  | none => rw [hf'] at hf; cases hf
  | some fs =>
    have e : (parts.toList.mapM fun (p : Nat × Operand) => (fs[p.1]?).bind fun (f : Field) => (opd C s.env f.type p.2).map fun a => (f.offset, szT C.P f.type, a)) = (parts.toList.mapM fun (p : Nat × Operand) => ((some fs).bind fun (fs : Array Field) => (fs[p.1]?).map fun (f : Field) => (f.offset, f.type)).bind fun q => (opd C s.env q.2 p.2).map fun a => (q.1, szT C.P q.2, a)) := by
      apply mapM_congr
      intro q _
      simp only [Option.bind_some]
      cases fs[q.1]? <;> rfl
    simp only [e]
    constructor
    · intro h
      cases hz : zeroC C.P 6 t with
      | none => rw [hz] at h; simp [Comes] at h
      | some z =>
        rw [hz] at h
        simp only [Option.bind_some] at h ⊢
        revert h
        cases (parts.toList.mapM fun (p : Nat × Operand) => ((fs[p.1]?).map fun (f : Field) => (f.offset, f.type)).bind fun q => (opd C s.env q.2 p.2).map fun a => (q.1, szT C.P q.2, a)) with
        | none => exact fun h => h
        | some l => simp only [Option.bind_some, vA, Option.map_map]; exact fun h => h
    · intro h
      cases hz : zeroC C.P 6 t with
      | none => rw [hz] at h; simp [Comes] at h
      | some z =>
        rw [hz] at h
        simp only [Option.bind_some] at h ⊢
        revert h
        cases (parts.toList.mapM fun (p : Nat × Operand) => ((fs[p.1]?).map fun (f : Field) => (f.offset, f.type)).bind fun q => (opd C s.env q.2 p.2).map fun a => (q.1, szT C.P q.2, a)) with
        | none => exact fun h => h
        | some l => simp only [Option.bind_some, vA, Option.map_map]; exact fun h => h

def gK (v : AV) (w : Bool) (A B : Prop) : Prop :=
  match v with
  | .bool b => if b == w then A else B
  | .void => B
  | _ => False
@[go_sem] theorem gK_bool {b A B} : gK (.bool b) true A B = bB b A B := by cases b <;> simp [gK, bB]
@[go_sem] theorem gK_bool' {b A B} : gK (.bool b) false A B = bB b B A := by cases b <;> simp [gK, bB]
@[go_sem] theorem gK_void {w A B} : gK .void w A B = B := rfl
def gdK (t : Option Tmp) (env : Nat → AV) (w : Bool) (A B : Prop) : Prop :=
  match t with
  | some t => gK (env t) w A B
  | none => B
theorem gdK_congr {t t' : Option Tmp} {env : Nat → AV} {w : Bool} {A B : Prop} (h : Mark t = t') : gdK t env w A B = gdK t' env w A B := by rw [← h]; rfl
theorem gK_congr {v v' : AV} {w : Bool} {A B : Prop} (h : Mark v = v') : gK v w A B = gK v' w A B := by rw [← h]; rfl
@[go_sem] theorem gdK_some {t env w A B} : gdK (some t) env w A B = gK (env t) w A B := rfl
@[go_sem] theorem s_guard {x : Op} {j : Nat} {w : Bool} : Comes (stepN C callI call ops ⟨d, x, ty, ps, af, some (j, w)⟩ s) Q ↔ gdK ((ops[j]?).bind (·.dst)) s.env w (Comes (stepN C callI call ops ⟨d, x, ty, ps, af, none⟩ s) Q) (Q { sto := s.sto, nid := s.nid, env := putE s.env d .void }) := by
  have e1 : loudCall C ⟨d, x, ty, ps, af, some (j, w)⟩ s = loudCall C ⟨d, x, ty, ps, af, none⟩ s := by cases x <;> rfl
  have e2 : act C call s.nid ⟨d, x, ty, ps, af, some (j, w)⟩ s = act C call s.nid ⟨d, x, ty, ps, af, none⟩ s := by cases x <;> rfl
  unfold stepN wants gdK
  simp only [e1, e2]
  cases (ops[j]?).bind (·.dst) with
  | none => simp [comes_some]; rfl
  | some t =>
    simp only
    cases s.env t with
    | bool b =>
      simp only [Option.bind_some, gK, if_true]
      cases hb : b == w <;> simp [comes_some] <;> rfl
    | void => simp [comes_some, gK]; rfl
    | _ => simp [gK, Comes]
/-- A memory of which some blocks are frozen. -/
def frz (f : Nat → Blk) : List Nat → Nat → Blk
  | [] => f
  | i :: l => frz (upd f i { f i with froz := true }) l
@[go_sem] theorem frz_nil {f : Nat → Blk} : frz f [] = f := rfl
@[go_sem] theorem frz_cons {f : Nat → Blk} {i : Nat} {l : List Nat} : frz f (i :: l) = frz (upd f i { f i with froz := true }) l := rfl
theorem frz_at (f : Nat → Blk) (j : Nat) : ∀ ids : List Nat, (frz f ids j).cells = (f j).cells ∧ (frz f ids j).gen = (f j).gen ∧ (frz f ids j).ty = (f j).ty ∧ (j ∉ ids → frz f ids j = f j)
  | [] => ⟨rfl, rfl, rfl, fun _ => rfl⟩
  | i :: l => by
    obtain ⟨h1, h2, h3, h4⟩ := frz_at (upd f i { f i with froz := true }) j l
    rw [frz_cons]
    refine ⟨h1.trans ?_, h2.trans ?_, h3.trans ?_, fun hn => (h4 fun h => hn (List.mem_cons_of_mem _ h)).trans (by simp only [upd]; rw [if_neg (fun e => hn (by rw [e]; exact List.mem_cons_self ..))])⟩
    all_goals
      simp only [upd]
      split
      · rename_i e; rw [e]
      · rfl
@[go_sem] theorem frz_cells {f : Nat → Blk} {j : Nat} {ids : List Nat} : (frz f ids j).cells = (f j).cells := (frz_at f j ids).1
@[go_sem] theorem frz_gen {f : Nat → Blk} {j : Nat} {ids : List Nat} : (frz f ids j).gen = (f j).gen := (frz_at f j ids).2.1
@[go_sem] theorem frz_ty {f : Nat → Blk} {j : Nat} {ids : List Nat} : (frz f ids j).ty = (f j).ty := (frz_at f j ids).2.2.1
theorem frz_out {f : Nat → Blk} {j : Nat} {ids : List Nat} (h : j ∉ ids) : frz f ids j = f j := (frz_at f j ids).2.2.2 h
theorem updL_frz (g : St) : ∀ (ids : List Nat) (f f' : Nat → Blk), (∀ j, (f' j).cells = (f j).cells ∧ (f' j).gen = (f j).gen ∧ (f' j).ty = (f j).ty) → g.sto = f → updL f' (froz g ids) = frz f' ids
  | [], f, f', _, _ => rfl
  | i :: l, f, f', h, hg => by
    have e : ({ g.sto i with froz := true } : Blk) = { f' i with froz := true } := by
      obtain ⟨h1, h2, h3⟩ := h i
      rw [hg]
      cases hf : f i
      cases hf' : f' i
      rw [hf, hf'] at h1 h2 h3
      simp only at h1 h2 h3
      simp [h1, h2, h3]
    show updL (upd f' i { g.sto i with froz := true }) (froz g l) = _
    rw [frz_cons, e]
    refine updL_frz g l f _ (fun j => ?_) hg
    simp only [upd]
    split
    · rename_i ej; rw [ej]; exact h i
    · exact h j
@[go_sem] theorem updL_frz_s {f : Nat → Blk} {s : St} {ids : List Nat} (h : s.sto = f) : updL f (froz s ids) = frz f ids := updL_frz s ids f f (fun j => ⟨rfl, rfl, rfl⟩) h
@[go_sem low] theorem frozV_def {s : St} {r : AV} {ids : List Nat} : frozV s r ids = if r.cool = true then [] else froz s ids := rfl
@[go_sem high] theorem frozV_nil {s : St} {r : AV} : frozV s r [] = [] := by unfold frozV froz; simp
@[go_sem] theorem froz_all {s : St} {ids : List Nat} {p : Nat × Blk → Bool} : (froz s ids).all p = ids.all (fun i => p (i, { s.sto i with froz := true })) := by simp [froz, List.all_map, Function.comp_def]
attribute [go_sem] AV.cool AV.cool1 AV.cool2
@[go_sem] theorem frozM_nil {m : Mem} : frozM m [] = m := by simp [frozM]
attribute [go_sem] loadA argsA List.any_nil List.any_cons List.cons_append List.nil_append List.append_nil AV.loud List.contains_nil Bool.or_false Bool.false_or List.mapM_nil List.mapM_cons snapD reachD List.map_nil List.map_cons List.flatten_nil List.flatten_cons Option.pure_def Option.bind_eq_bind List.isEmpty_nil List.isEmpty_cons
attribute [go_sem] List.getElem?_toArray beq_self_eq_true
end Go.Ev

namespace Go.Ev
set_option linter.unusedVariables false
variable {C : Ctx} {callI : FuncId → List AV → Mem → Option (AV × Mem)} {call : FuncId → List AV → Option AV} {ops : Array Oper} {d : Option Tmp} {ty : TypeId} {ps : String} {af : Array Edge} {s : St} {base IX : Nat} {K : Do → Prop}
def actK (K : Do → Prop) : Act → Prop := fun a => K (.act a)
@[go_sem] theorem actK_ap {a : Act} : actK K a = K (.act a) := rfl
theorem r_plain {x : Op} (h : isCall x = false) : Comes (resD C callI call ops base IX ⟨d, x, ty, ps, af, none⟩ s) K ↔ Comes (act C call (base + IX) ⟨d, x, ty, ps, af, none⟩ s) (actK K) := by
  unfold resD
  rw [loud_plain C s d ty ps af none h]
  exact comes_map
@[go_sem] theorem r_builtin {b : Builtin} {as : Array Operand} {ts : Array TypeId} : Comes (resD C callI call ops base IX ⟨d, .call ⟨.builtin b, as, ts⟩, ty, ps, af, none⟩ s) K ↔ Comes ((argsA C s.env as.toList ts.toList).bind fun args => builtinA C b ts.toList s (base + IX) args) (actK K) := comes_map
@[go_sem] theorem r_move {x} : Comes (resD C callI call ops base IX ⟨d, .move x, ty, ps, af, none⟩ s) K ↔ Comes (vA (opd C s.env ty x)) (actK K) := r_plain rfl
@[go_sem] theorem r_assign {x} : Comes (resD C callI call ops base IX ⟨d, .assign x, ty, ps, af, none⟩ s) K ↔ Comes (vA (opd C s.env ty x)) (actK K) := r_plain rfl
@[go_sem] theorem r_pick {c} {a} {b} : Comes (resD C callI call ops base IX ⟨d, .pick c a b, ty, ps, af, none⟩ s) K ↔ Comes (opd C s.env ty c) (pickK C s.env ty a b (actK K)) := by
  rw [r_plain rfl, act_pick]
  exact pick_iff
@[go_sem] theorem r_alloc {e} : Comes (resD C callI call ops base IX ⟨d, .alloc e, ty, ps, af, none⟩ s) K ↔ Comes ((zeroC C.P 6 e).map fun cs => { val := .ptr (base + IX) 0 0, sw := [((base + IX), ⟨cs, 0, false, some (e, true)⟩)], nb := 1 }) (actK K) := r_plain rfl
@[go_sem] theorem r_box {e} {x} : Comes (resD C callI call ops base IX ⟨d, .box e x, ty, ps, af, none⟩ s) K ↔ Comes ((opd C s.env e x).bind fun a => if a.cells.all AV.one then some { val := .ptr (base + IX) 0 0, sw := [((base + IX), ⟨a.cells, 0, false, none⟩)], nb := 1 } else none) (actK K) := r_plain rfl
@[go_sem] theorem r_buildSlice {t} {n} {parts} : Comes (resD C callI call ops base IX ⟨d, .buildSlice t n parts, ty, ps, af, none⟩ s) K ↔ Comes ((elemT C.P t).bind fun e => (zeroC C.P 6 e).bind fun z =>
      let sz := szT C.P e
      if 0 < sz ∧ z.length = sz ∧ n * sz ≤ 16777216 then
        (parts.toList.mapM fun (p : Nat × Operand) => if p.1 < n then (opd C s.env e p.2).map fun a => (p.1 * sz, sz, a) else none).bind fun ps =>
          (fillA (List.replicate n z).flatten ps).map fun cs => { val := .arr (base + IX) 0 0 n sz true, sw := [((base + IX), ⟨cs, 0, false, none⟩)], nb := 1 }
      else none) (actK K) := r_plain rfl
@[go_sem] theorem r_load {t} {a} : Comes (resD C callI call ops base IX ⟨d, .load t a, ty, ps, af, none⟩ s) K ↔ Comes ((opd C s.env ty a).bind fun a => match a with
    | .ptr id g off => if g = (s.sto id).gen then (loadA C t ((s.sto id).cells.drop off)).map fun x => { val := x, sr := [id] } else none
    | .eptr cs => vA (loadA C t cs)
    | _ => none) (actK K) := r_plain rfl
@[go_sem] theorem r_store {t} {a} {x} : Comes (resD C callI call ops base IX ⟨d, .store t a x, ty, ps, af, none⟩ s) K ↔ Comes ((opd C s.env ty a).bind fun a => (opd C s.env t x).bind fun x => match a with
    | .ptr id g off =>
      let b := s.sto id
      if g = b.gen ∧ b.froz = false ∧ x.cells.length = szT C.P t ∧ off + x.cells.length ≤ b.cells.length ∧ x.cells.all AV.one = true ∧ (C.P.info? t).isSome = true then some { val := .void, sr := [id], sw := [(id, { b with cells := spliceA b.cells off x.cells })] } else none
    | _ => none) (actK K) := r_plain rfl
@[go_sem] theorem r_nilCheck {x} : Comes (resD C callI call ops base IX ⟨d, .nilCheck x, ty, ps, af, none⟩ s) K ↔ Comes ((opd C s.env ty x).bind fun a => match a with
    | .ptr _ _ _ | .eptr _ => vA (some a)
    | .fn _ _ => vA (some a)
    | _ => none) (actK K) := r_plain rfl
@[go_sem] theorem r_binOp {op} {xt} {x} {y} {yt} : Comes (resD C callI call ops base IX ⟨d, .binOp op xt x y yt, ty, ps, af, none⟩ s) K ↔ Comes ((opd C s.env xt x).bind fun a => (opd C s.env (if op == .shl || op == .shr then yt else xt) y).bind fun b => vA (binX C xt y op a b)) (actK K) := r_plain rfl
@[go_sem] theorem r_unOp {op} {xt} {x} : Comes (resD C callI call ops base IX ⟨d, .unOp op xt x, ty, ps, af, none⟩ s) K ↔ Comes ((opd C s.env xt x).bind fun a => vA (unA op a)) (actK K) := r_plain rfl
@[go_sem] theorem r_convert {src} {dst} {x} : Comes (resD C callI call ops base IX ⟨d, .convert src dst x, ty, ps, af, none⟩ s) K ↔ Comes ((opd C s.env src x).bind fun a => convA C src dst s (base + IX) a) (actK K) := r_plain rfl
@[go_sem] theorem r_makeFunc {fn} {first} {captured} : Comes (resD C callI call ops base IX ⟨d, .makeFunc fn first captured, ty, ps, af, none⟩ s) K ↔ Comes (match fn with
    | .func f => if first.isEmpty then (captured.toList.mapM fun x => opd C s.env 0 x).bind fun cs => if cs.all AV.one then vA (some (.fn f cs)) else none else none
    | _ => none) (actK K) := r_plain rfl
@[go_sem] theorem r_makeInterface {t} {x} : Comes (resD C callI call ops base IX ⟨d, .makeInterface t x, ty, ps, af, none⟩ s) K ↔ Comes ((opd C s.env t x).bind fun _ => match C.P.underlying t with
    | some (.interface _) | none => none
    | _ => vA (some .iface)) (actK K) := r_plain rfl
@[go_sem] theorem r_makeSlice {t} {l} {c} : Comes (resD C callI call ops base IX ⟨d, .makeSlice t l c, ty, ps, af, none⟩ s) K ↔ Comes ((elemT C.P t).bind fun e => (opd C s.env 3 l).bind fun l => (opd C s.env 3 c).bind fun c => match l, c with
    | .int k n, .int k' m => if n = m ∧ 0 ≤ n ∧ n ≤ most ∧ bytesT C.P e ≤ 128 ∧ k = .i64 ∧ k' = .i64 then (zeroC C.P 6 e).bind fun z => if z.length = szT C.P e ∧ 0 < z.length then some { val := .arr (base + IX) 0 0 n.toNat z.length true, sw := [((base + IX), ⟨(List.replicate n.toNat z).flatten, 0, false, none⟩)], nb := 1 } else none else none
    | _, _ => none) (actK K) := r_plain rfl
@[go_sem] theorem r_slice {t} {x} {lo} {hi} {mx} : Comes (resD C callI call ops base IX ⟨d, .slice t x lo hi mx, ty, ps, af, none⟩ s) K ↔ Comes ((opd C s.env t x).bind fun a => (opds C s.env 3 lo).bind fun lo => (opds C s.env 3 hi).bind fun hi => (opds C s.env 3 mx).bind fun mx => if hi.isNone && mx.isSome then none else vA (sliceA C t a lo hi mx)) (actK K) := r_plain rfl
@[go_sem] theorem r_indexAddr {t} {x} {i} : Comes (resD C callI call ops base IX ⟨d, .indexAddr t x i, ty, ps, af, none⟩ s) K ↔ Comes ((opd C s.env t x).bind fun a => (opd C s.env 3 i).bind fun i => match a with
    | .slice sz xs => (idx i xs.length).bind fun i => (elemT C.P t).bind fun e => if sz = szT C.P e ∧ 0 < sz then vA ((xs[i]?).map fun x => .eptr x.cells) else none
    | .arr id g off n sz _ => (idx i n).bind fun i => (elemT C.P t).bind fun e => if sz = szT C.P e ∧ 0 < sz then vA (some (.ptr id g (off + i * sz))) else none
    | .eptr cs => match C.P.underlying t with
      | some (.array n e) => (idx i n).bind fun i => if 0 < szT C.P e then vA (some (.eptr (cs.drop (i * szT C.P e)))) else none
      | _ => none
    | .ptr id g off => match C.P.underlying t with
      | some (.array n e) => (idx i n).bind fun i => if 0 < szT C.P e then vA (some (.ptr id g (off + i * szT C.P e))) else none
      | _ => none
    | _ => none) (actK K) := r_plain rfl
@[go_sem] theorem r_index {t} {x} {i} : Comes (resD C callI call ops base IX ⟨d, .index t x i, ty, ps, af, none⟩ s) K ↔ Comes ((opd C s.env t x).bind fun a => (opd C s.env 3 i).bind fun i => match a with
    | .str s => match C.P.underlying t with
      | some .string => (idx i s.size).bind fun i => vA ((s[i]?).map fun b => .int .u8 b.toNat)
      | _ => none
    | _ => none) (actK K) := r_plain rfl
@[go_sem] theorem r_extract {t} {i} : Comes (resD C callI call ops base IX ⟨d, .extract t i, ty, ps, af, none⟩ s) K ↔ Comes ((opd C s.env 0 t).bind fun a => match a with
    | .tup vs => vA (vs[i]?)
    | _ => none) (actK K) := r_plain rfl
@[go_sem] theorem r_fieldAddr' {t : TypeId} {x : Operand} {f : Nat} : Comes (resD C callI call ops base IX ⟨d, .fieldAddr t x f, ty, ps, af, none⟩ s) K ↔ Comes ((fldA C.P t f).bind fun q => if szT C.P q.2 = 0 then none else (opd C s.env ty x).bind fun a => match a with
    | .ptr id g off => some { val := .ptr id g (off + q.1) }
    | .eptr cs => some { val := .eptr (cs.drop q.1) }
    | _ => none) (actK K) := by
  rw [r_plain rfl, act_fieldAddr]
  unfold fldA
  cases fieldsT C.P t with
  | none => rfl
  | some fs =>
    simp only [Option.bind_some]
    cases fs[f]? with
    | none => rfl
    | some q => rfl
@[go_sem] theorem r_field' {t : TypeId} {x : Operand} {f : Nat} : Comes (resD C callI call ops base IX ⟨d, .field t x f, ty, ps, af, none⟩ s) K ↔ Comes ((fldA C.P t f).bind fun q => (opd C s.env t x).bind fun a => match a with
    | .agg cs => vA (loadA C q.2 (cs.drop q.1))
    | _ => none) (actK K) := by
  rw [r_plain rfl, act_field]
  unfold fldA
  cases fieldsT C.P t with
  | none => rfl
  | some fs =>
    simp only [Option.bind_some]
    cases fs[f]? with
    | none => rfl
    | some q => rfl
theorem build_eq {t : TypeId} {parts : Array (Nat × Operand)} {fb : Nat} (hf : (fieldsT C.P t).isSome = true) : act C call fb ⟨d, .build t parts, ty, ps, af, none⟩ s = ((zeroC C.P 6 t).bind fun z => (parts.toList.mapM fun (p : Nat × Operand) => (fldA C.P t p.1).bind fun q => (opd C s.env q.2 p.2).map fun a => (q.1, szT C.P q.2, a)).bind fun ps => (fillA z ps).map fun cs => { val := .agg cs }) := by
  rw [act_build]
  unfold fldA
  cases hf' : fieldsT C.P t with
  | none => rw [hf'] at hf; cases hf
  | some fs =>
    have e : (parts.toList.mapM fun (p : Nat × Operand) => (fs[p.1]?).bind fun (f : Field) => (opd C s.env f.type p.2).map fun a => (f.offset, szT C.P f.type, a)) = (parts.toList.mapM fun (p : Nat × Operand) => ((some fs).bind fun (fs : Array Field) => (fs[p.1]?).map fun (f : Field) => (f.offset, f.type)).bind fun q => (opd C s.env q.2 p.2).map fun a => (q.1, szT C.P q.2, a)) := by
      apply mapM_congr
      intro q _
      simp only [Option.bind_some]
      cases fs[q.1]? <;> rfl
    simp only [e]
    cases hz : zeroC C.P 6 t with
    | none => rfl
    | some z =>
      simp only [Option.bind_some]
      cases (parts.toList.mapM fun (p : Nat × Operand) => ((fs[p.1]?).map fun (f : Field) => (f.offset, f.type)).bind fun q => (opd C s.env q.2 p.2).map fun a => (q.1, szT C.P q.2, a)) with
      | none => rfl
      | some l => simp only [Option.bind_some, vA, Option.map_map]; rfl
@[go_sem] theorem r_build' {t : TypeId} {parts : Array (Nat × Operand)} (hf : (fieldsT C.P t).isSome = true) : Comes (resD C callI call ops base IX ⟨d, .build t parts, ty, ps, af, none⟩ s) K ↔ Comes ((zeroC C.P 6 t).bind fun z => (parts.toList.mapM fun (p : Nat × Operand) => (fldA C.P t p.1).bind fun q => (opd C s.env q.2 p.2).map fun a => (q.1, szT C.P q.2, a)).bind fun ps => (fillA z ps).map fun cs => { val := .agg cs }) (actK K) := by
  rw [r_plain rfl, build_eq hf]

@[go_sem] theorem r_guard {x : Op} {j : Nat} {w : Bool} : Comes (resD C callI call ops base IX ⟨d, x, ty, ps, af, some (j, w)⟩ s) K ↔ gdK ((ops[j]?).bind (·.dst)) s.env w (Comes (resD C callI call ops base IX ⟨d, x, ty, ps, af, none⟩ s) K) (K .skip) := by
  have e1 : loudCall C ⟨d, x, ty, ps, af, some (j, w)⟩ s = loudCall C ⟨d, x, ty, ps, af, none⟩ s := by cases x <;> rfl
  have e2 : act C call (base + IX) ⟨d, x, ty, ps, af, some (j, w)⟩ s = act C call (base + IX) ⟨d, x, ty, ps, af, none⟩ s := by cases x <;> rfl
  unfold resD wants gdK
  simp only [e1, e2]
  cases (ops[j]?).bind (·.dst) with
  | none => simp [comes_some]
  | some t =>
    simp only
    cases s.env t with
    | bool b =>
      simp only [Option.bind_some, gK, if_true]
      cases hb : b == w <;> simp [comes_some]
    | void => simp [comes_some, gK]
    | _ => simp [gK, Comes]

def farK (ids : List Nat) (m : Mem) (K : Do → Prop) : AV × Mem → Prop := fun p => (∀ i ∈ ids, (m.sto i).gen ≤ (p.2.sto i).gen) ∧ K (.call ids m.nid p.1 p.2)
@[go_sem] theorem farK_ap {ids m r m'} : farK ids m K (r, m') = ((∀ i ∈ ids, (m.sto i).gen ≤ (m'.sto i).gen) ∧ K (.call ids m.nid r m')) := rfl
def farG (callI : FuncId → List AV → Mem → Option (AV × Mem)) (f : FuncId) (args : List AV) (m : Mem) (K : Do → Prop) (ids : List Nat) : Prop := closedB m ids args = true ∧ Comes (callI f args (mask ids m)) (farK ids m K)
@[go_sem] theorem farG_ap {f args m ids} : farG callI f args m K ids = (closedB m ids args = true ∧ Comes (callI f args (mask ids m)) (farK ids m K)) := rfl
@[go_sem] theorem comes_far {f : FuncId} {args : List AV} {m : Mem} : Comes (farOf callI f args m) K ↔ farG callI f args m K (args.map (reachL m 2097152)).flatten := by
  unfold farOf farG
  dsimp only
  split
  · rename_i h
    rw [comes_bind]
    constructor
    · rintro ⟨⟨r, m'⟩, h1, h2⟩
      refine ⟨h, (r, m'), h1, ?_⟩
      simp only at h2
      split at h2
      · rename_i hg
        rw [comes_some] at h2
        exact ⟨fun i hi => by simpa using List.all_eq_true.1 hg i hi, h2⟩
      · simp [Comes] at h2
    · rintro ⟨_, ⟨r, m'⟩, h1, h2, h3⟩
      refine ⟨(r, m'), h1, ?_⟩
      simp only
      rw [if_pos (List.all_eq_true.2 (fun i hi => by simpa using h2 i hi)), comes_some]
      exact h3
  · rename_i h
    simp only [comes_none, false_iff]
    rintro ⟨h1, _⟩
    exact h h1

def rloudK (C : Ctx) (callI : FuncId → List AV → Mem → Option (AV × Mem)) (call : FuncId → List AV → Option AV) (s : St) (K : Do → Prop) (f : AV) (args : List AV) : Prop :=
  match f with
  | .fn f cap => if C.share.contains f || (args ++ cap).any AV.loud then Comes (farOf callI f (args ++ cap) s.toMem) K
    else Comes ((args ++ cap).mapM (snapD s.toMem 2097152)) (fun l => Comes (call f l) (fun r => K (.act { val := r, sr := ((args ++ cap).map (reachD s.toMem 2097152)).flatten, sw := frozV s r ((args ++ cap).map (reachD s.toMem 2097152)).flatten })))
  | _ => False
@[go_sem] theorem rloudK_fn {f cap l} : rloudK C callI call s K (.fn f cap) l = if C.share.contains f || (l ++ cap).any AV.loud then Comes (farOf callI f (l ++ cap) s.toMem) K
    else Comes ((l ++ cap).mapM (snapD s.toMem 2097152)) (fun a => Comes (call f a) (fun r => K (.act { val := r, sr := ((l ++ cap).map (reachD s.toMem 2097152)).flatten, sw := frozV s r ((l ++ cap).map (reachD s.toMem 2097152)).flatten }))) := rfl
def rargK (C : Ctx) (callI : FuncId → List AV → Mem → Option (AV × Mem)) (call : FuncId → List AV → Option AV) (s : St) (K : Do → Prop) (f : AV) : List AV → Prop := rloudK C callI call s K f
@[go_sem] theorem rargK_ap {f l} : rargK C callI call s K f l = rloudK C callI call s K f l := rfl
def rfunK (C : Ctx) (callI : FuncId → List AV → Mem → Option (AV × Mem)) (call : FuncId → List AV → Option AV) (s : St) (K : Do → Prop) (as : Array Operand) (ts : Array TypeId) : AV → Prop := fun f => Comes (argsA C s.env as.toList ts.toList) (rargK C callI call s K f)
@[go_sem] theorem rfunK_ap {as ts f} : rfunK C callI call s K as ts f = Comes (argsA C s.env as.toList ts.toList) (rargK C callI call s K f) := rfl
@[go_sem] theorem r_value {f : Operand} {as : Array Operand} {ts : Array TypeId} : Comes (resD C callI call ops base IX ⟨d, .call ⟨.value f, as, ts⟩, ty, ps, af, none⟩ s) K ↔ Comes (opd C s.env 0 f) (rfunK C callI call s K as ts) := by
  unfold resD
  rw [loud_value, act_value]
  simp only [wants, Option.bind_some, if_true]
  cases hf : opd C s.env 0 f with
  | none => simp [Comes]
  | some fv =>
    simp only [Option.bind_some, comes_some, rfunK_ap]
    cases ha : argsA C s.env as.toList ts.toList with
    | none => simp [Comes]
    | some l =>
      simp only [Option.bind_some, comes_some, rargK_ap]
      cases fv with
      | fn f cap =>
        rw [rloudK_fn]
        simp only
        by_cases hl : (C.share.contains f || (l ++ cap).any AV.loud) = true
        · simp only [if_pos hl]
        · simp only [if_neg hl, comes_map, comes_bind]
      | _ => simp [Comes, rloudK]

def confK (acc : List Do) (prs : List (Nat × Nat)) (Q : St → Prop) : List Do × St → Prop := fun p => (prs.all (fun (q : Nat × Nat) => noConf ((acc ++ p.1).getD q.1 .skip) ((acc ++ p.1).getD q.2 .skip)) = true) ∧ Q p.2
def nextK (C : Ctx) (callI : FuncId → List AV → Mem → Option (AV × Mem)) (call : FuncId → List AV → Option AV) (ops : Array Oper) (base : Nat) (r : List Nat) (o : Oper) (s : St) (acc : List Do) (prs : List (Nat × Nat)) (Q : St → Prop) : Do → Prop := fun a => Comes (goD C callI call ops base r (onD o a s)) (confK (acc ++ [a]) prs Q)
def goK (C : Ctx) (callI : FuncId → List AV → Mem → Option (AV × Mem)) (call : FuncId → List AV → Option AV) (ops : Array Oper) (base i : Nat) (r : List Nat) (s : St) (acc : List Do) (prs : List (Nat × Nat)) (Q : St → Prop) : Oper → Prop := fun o => Comes (resD C callI call ops base i o s) (nextK C callI call ops base r o s acc prs Q)
variable {r : List Nat} {acc : List Do} {prs : List (Nat × Nat)} {Q : St → Prop}
@[go_sem] theorem goK_ap {o : Oper} : goK C callI call ops base IX r s acc prs Q o = Comes (resD C callI call ops base IX o s) (nextK C callI call ops base r o s acc prs Q) := rfl
@[go_sem] theorem nextK_skip {x : Op} {gd : Option (Nat × Bool)} : nextK C callI call ops base r ⟨d, x, ty, ps, af, gd⟩ s acc prs Q .skip = Comes (goD C callI call ops base r { sto := s.sto, nid := s.nid, env := putE s.env d .void }) (confK (acc ++ [.skip]) prs Q) := rfl
@[go_sem] theorem nextK_act {x : Op} {gd : Option (Nat × Bool)} {a : Act} : nextK C callI call ops base r ⟨d, x, ty, ps, af, gd⟩ s acc prs Q (.act a) = Comes (goD C callI call ops base r { sto := updL s.sto a.sw, nid := s.nid, env := putE s.env d a.val }) (confK (acc ++ [.act a]) prs Q) := rfl
@[go_sem] theorem nextK_call {x : Op} {gd : Option (Nat × Bool)} {ids : List Nat} {n0 : Nat} {v : AV} {m : Mem} : nextK C callI call ops base r ⟨d, x, ty, ps, af, gd⟩ s acc prs Q (.call ids n0 v m) = Comes (goD C callI call ops base r { sto := (joinM ids n0 s.toMem m).sto, nid := m.nid, env := putE s.env d v }) (confK (acc ++ [.call ids n0 v m]) prs Q) := rfl
@[go_sem] theorem go_cons : Comes (goD C callI call ops base (IX :: r) s) (confK acc prs Q) ↔ Comes (ops[IX]?) (goK C callI call ops base IX r s acc prs Q) := by
  simp only [goD, comes_bind, comes_map]
  cases ops[IX]? with
  | none => simp [Comes]
  | some o =>
    simp only [comes_some, goK_ap]
    cases resD C callI call ops base IX o s with
    | none => simp [Comes]
    | some a =>
      simp only [comes_some, nextK]
      cases goD C callI call ops base r (onD o a s) with
      | none => simp [Comes]
      | some p =>
        obtain ⟨l, s'⟩ := p
        simp only [comes_some, confK, List.append_assoc, List.singleton_append]
@[go_sem] theorem go_nil : Comes (goD C callI call ops base [] s) (confK acc prs Q) ↔ (prs.all (fun (q : Nat × Nat) => noConf (acc.getD q.1 .skip) (acc.getD q.2 .skip)) = true) ∧ Q s := by
  simp [goD, comes_some, confK]

/-- A region whose order is drawn, by its plan. -/
theorem d_plan {id : Nat} {ord : List Nat} {prs : List (Nat × Nat)} {lp : (St → Option (Ex × St)) → St → Option (Ex × St)} {Q : Ex × St → Prop} (h : planD ops = some (ord, prs)) : Comes (evc C callI call lp (.region id ops true) s) Q ↔ Comes (goD C callI call ops s.nid ord { sto := s.sto, nid := s.nid + ops.size, env := s.env }) (confK [] prs (toK Q)) := by
  rw [c_regD]
  unfold runD
  rw [h]
  simp only [Option.bind_some, comes_bind]
  cases goD C callI call ops s.nid ord { sto := s.sto, nid := s.nid + ops.size, env := s.env } with
  | none => simp [Comes]
  | some p =>
    obtain ⟨l, s'⟩ := p
    simp only [comes_some, confK, List.nil_append]
    split
    · rename_i hc; simp only [comes_some, hc, true_and]
    · rename_i hc; exact ⟨fun h => (comes_none.1 h).elim, fun h => (hc h.1).elim⟩
@[go_sem] theorem binX_int {t : TypeId} {y : Operand} {op : BinOp} {k : IntKind} {n : Int} {b : AV} : binX C t y op (.int k n) b = binA (C.P.underlying t) op (.int k n) b := rfl
@[go_sem] theorem binX_str {t : TypeId} {y : Operand} {op : BinOp} {n : ByteArray} {b : AV} : binX C t y op (.str n) b = binA (C.P.underlying t) op (.str n) b := rfl
@[go_sem] theorem binX_bool {t : TypeId} {y : Operand} {op : BinOp} {n : Bool} {b : AV} : binX C t y op (.bool n) b = binA (C.P.underlying t) op (.bool n) b := rfl
@[go_sem] theorem binX_nilp {t : TypeId} {y : Operand} {op : BinOp} {b : AV} : binX C t y op .nilp b = binA (C.P.underlying t) op .nilp b := rfl
@[go_sem] theorem binX_ptr {t : TypeId} {y : Operand} {op : BinOp} {id g off : Nat} {b : AV} : binX C t y op (.ptr id g off) b = binA (C.P.underlying t) op (.ptr id g off) b := rfl
@[go_sem] theorem binX_eptr {t : TypeId} {y : Operand} {op : BinOp} {cs : List AV} {b : AV} : binX C t y op (.eptr cs) b = binA (C.P.underlying t) op (.eptr cs) b := rfl
@[go_sem] theorem binX_nils {t : TypeId} {y : Operand} {op : BinOp} {z : Nat} {b : AV} : binX C t y op (.nils z) b = binA (C.P.underlying t) op (.nils z) b := rfl
@[go_sem] theorem binX_slice {t : TypeId} {y : Operand} {op : BinOp} {z : Nat} {xs : List AV} {b : AV} : binX C t y op (.slice z xs) b = binA (C.P.underlying t) op (.slice z xs) b := rfl
@[go_sem] theorem binX_arr {t : TypeId} {y : Operand} {op : BinOp} {id g off n z : Nat} {app : Bool} {b : AV} : binX C t y op (.arr id g off n z app) b = binA (C.P.underlying t) op (.arr id g off n z app) b := rfl
@[go_sem] theorem binX_iface {t : TypeId} {y : Operand} {op : BinOp} {b : AV} : binX C t y op .iface b = binA (C.P.underlying t) op .iface b := rfl
@[go_sem] theorem binX_eql {t : TypeId} {y : Operand} {xs ys : List AV} : binX C t y .eql (.agg xs) (.agg ys) = if C.P.eqGuardType C.P.depth t = true then none else (eqS C 4 t xs ys).map .bool := rfl
@[go_sem] theorem binX_neq {t : TypeId} {y : Operand} {xs ys : List AV} : binX C t y .neq (.agg xs) (.agg ys) = if C.P.eqGuardType C.P.depth t = true then none else (eqS C 4 t xs ys).map fun r => .bool (!r) := rfl
@[go_sem] theorem binX_nili {t : TypeId} {v : Value} {op : BinOp} : binX C t (.const v) op .nili .nili = match C.P.underlying t with
    | some (.interface _) => match op with
      | .eql => some (.bool true)
      | .neq => some (.bool false)
      | _ => none
    | _ => none := by
  unfold binX
  cases C.P.underlying t with
  | none => rfl
  | some d => cases d <;> rfl
attribute [go_sem] List.size_toArray builtinA appendA newsA fillA spliceA Option.isSome_some Option.isSome_none List.replicate_succ List.replicate_zero Nat.mul_one Nat.one_mul Nat.zero_mul Nat.lt_add_one Nat.zero_lt_one List.drop_nil List.take_nil ne_eq not_false_eq_true not_true_eq_false and_self
@[go_sem] theorem cmp_eql {a b : Int} : cmpI .eql a b = some (decide (a = b)) := by simp [cmpI]; rfl
@[go_sem] theorem cmp_neq {a b : Int} : cmpI .neq a b = some (!decide (a = b)) := by simp [cmpI]; rfl
@[go_sem] theorem cmp_lss {a b : Int} : cmpI .lss a b = some (decide (a < b)) := rfl
@[go_sem] theorem cmp_leq {a b : Int} : cmpI .leq a b = some (decide (a ≤ b)) := rfl
@[go_sem] theorem cmp_gtr {a b : Int} : cmpI .gtr a b = some (decide (b < a)) := rfl
@[go_sem] theorem cmp_geq {a b : Int} : cmpI .geq a b = some (decide (b ≤ a)) := rfl
attribute [go_sem] elems List.headD_cons resL cellA packR_one packR_nil packR_two noConf farB List.getD_nil List.contains_cons arithI wrapI decide_true decide_false
@[go_sem] theorem nbeq_nat {a b : Nat} : ((!(a == b)) = true) = ¬ (a = b) := by simp
@[go_sem] theorem beq_nat {a b : Nat} : ((a == b) = true) = (a = b) := by simp
attribute [go_sem] Bool.and_eq_true Bool.or_eq_true

/-- Both arms of a branch lead to the same. -/
theorem bB_merge {α : Type} {b : Bool} {x y : Option α} {K : α → Prop} (P : α → Prop) (h1 : b = true → Comes x P) (h2 : b = false → Comes y P) (h : ∀ a, P a → K a) : bB b (Comes x K) (Comes y K) :=
  bB_split (fun e => (h1 e).mono h) (fun e => (h2 e).mono h)

/-! ### loops -/
def upK (I : St → Prop) (Q : Ex × St → Prop) : Ex × St → Prop
  | (.normal, s) => I s
  | p => Q p
@[go_sem] theorem upK_n {I : St → Prop} {Q : Ex × St → Prop} {s : St} : upK I Q (.normal, s) = I s := rfl
@[go_sem] theorem upK_r {I : St → Prop} {Q : Ex × St → Prop} {s : St} : upK I Q (.ret, s) = Q (.ret, s) := rfl
@[go_sem] theorem upK_e {I : St → Prop} {Q : Ex × St → Prop} {s : St} {n : Nat} : upK I Q (.exit n, s) = Q (.exit n, s) := rfl

theorem comes_while {b : St → Option (Ex × St)} {Q : Ex × St → Prop} (I : Nat → St → Prop) (step : ∀ k s, I k s → Comes (b s) (upK (fun s' => ∃ j, j < k ∧ I j s') Q)) (k : Nat) (s : St) (h : I k s) : Comes (lpL b s) Q := by
  refine comes_loop I (fun k s hs => (step k s hs).mono ?_) k s h
  rintro ⟨e, s'⟩ hp
  cases e <;> exact hp

/-- A loop that counts up to n. -/
theorem comes_upto {b : St → Option (Ex × St)} {Q : Ex × St → Prop} (n : Nat) (I : Nat → St → Prop) (step : ∀ i s, i < n → I i s → Comes (b s) (upK (I (i + 1)) Q)) (last : ∀ s, I n s → Comes (b s) (upK (fun _ => False) Q)) (s : St) (h : I 0 s) : Comes (lpL b s) Q := by
  refine comes_while (fun k s => ∃ i, k = n - i ∧ i ≤ n ∧ I i s) ?_ n s ⟨0, by omega, by omega, h⟩
  rintro k s ⟨i, rfl, hi, hI⟩
  rcases Nat.lt_or_ge i n with h1 | h1
  · refine (step i s h1 hI).mono ?_
    rintro ⟨e, s'⟩ hp
    cases e with
    | normal => exact ⟨n - (i + 1), by omega, i + 1, rfl, h1, hp⟩
    | _ => exact hp
  · have : i = n := by omega
    subst this
    refine (last s hI).mono ?_
    rintro ⟨e, s'⟩ hp
    cases e with
    | normal => exact hp.elim
    | _ => exact hp

/-! ### numbers -/
theorem wrap_id {x : Int} (h : -9223372036854775808 ≤ x) (h' : x ≤ 9223372036854775807) : IntKind.wrap .i64 x = x := by
  unfold IntKind.wrap
  have hb : IntKind.bits .i64 = 64 := rfl
  have hs : IntKind.signed .i64 = true := rfl
  simp only [hb, hs, Bool.true_and, decide_eq_true_eq]
  rw [show (2 : Int) ^ 64 = 18446744073709551616 from rfl, show (2 : Int) ^ (64 - 1) = 9223372036854775808 from rfl]
  split <;> omega
theorem wrap_succ {i : Nat} (h : i + 1 ≤ 9223372036854775807) : IntKind.wrap .i64 ((i : Int) + 1) = ((i + 1 : Nat) : Int) := by
  rw [wrap_id (by omega) (by omega)]; rfl
theorem wrap_nat {n : Nat} (h : n ≤ 9223372036854775807) : IntKind.wrap .i64 (n : Int) = n := wrap_id (by omega) (by omega)
theorem wrap_u8 {x : Int} (h : 0 ≤ x) (h' : x ≤ 255) : IntKind.wrap .u8 x = x := by
  unfold IntKind.wrap
  have hb : IntKind.bits .u8 = 8 := rfl
  have hs : IntKind.signed .u8 = false := rfl
  simp only [hb, hs, Bool.false_and, Bool.false_eq_true, if_false]
  rw [show (2 : Int) ^ 8 = 256 from rfl]
  omega
def sget (s : ByteArray) (i : Nat) : UInt8 := s.data.getD i 0
theorem s_at {s : ByteArray} {i : Nat} (h : i < s.size) : s[i]? = some (sget s i) := by
  rw [getElem?_pos s i h]
  have h' : i < s.data.size := h
  simp only [sget, Array.getD, dif_pos h']
  rfl
theorem str_eq {a b : ByteArray} : (a.toList == b.toList) = decide (a = b) := by
  by_cases h : a = b
  · simp [h]
  · have : a.toList ≠ b.toList := fun e => h (by
      have e' : a.data.toList = b.data.toList := by simpa [ByteArray.toList_eq] using e
      cases a; cases b; simp at e'; simp [e'])
    simp [h, this]
@[go_sem] theorem strOp_eql {a b : ByteArray} : strOp .eql a b = some (.bool (decide (a = b))) := by simp only [strOp, str_eq]
@[go_sem] theorem strOp_neq {a b : ByteArray} : strOp .neq a b = some (.bool !(decide (a = b))) := by simp only [strOp, str_eq]
theorem strOp_add {a b : ByteArray} : strOp .add a b = if a.size + b.size ≤ 9223372036854775807 then some (.str (a ++ b)) else none := rfl
theorem str_add {a b : ByteArray} (h : a.size + b.size ≤ 9223372036854775807) : strOp .add a b = some (.str (a ++ b)) := by rw [strOp_add, if_pos h]
theorem size_cat (a b : ByteArray) : (a ++ b).size = a.size + b.size := by simp
theorem size_lit (l : Array UInt8) : (⟨l⟩ : ByteArray).size = l.size := rfl
attribute [go_sem] bytesStr wrap_u8 Int.zero_add Int.add_zero capA dataA textA grewT wrap_id lenA sliceA bound opds convA eqV maxA minA shiftI idx str_eq Int.reduceToNat Option.isSome_none Int.natCast_nonneg Int.ofNat_lt Int.ofNat_le Int.toNat_natCast Nat.lt_irrefl
end Go.Ev
