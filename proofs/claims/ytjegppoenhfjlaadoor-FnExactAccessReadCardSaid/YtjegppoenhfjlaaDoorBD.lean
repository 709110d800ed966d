/- Part of the proof of a statement about the given program: BD. No condition of its own. -/
import Derived.Test.YtjegppoenhfjlaaDoorEvTyD
import Derived.Test.YtjegppoenhfjlaaDoorKD
import Derived.Test.YtjegppoenhfjlaaDoorShE
import Derived.Test.YtjegppoenhfjlaaDoorK5D
import Derived.Test.YtjegppoenhfjlaaDoorEvPrim
namespace Go.Ev.Tryd
open Go.Proofs
def pow10Cells : Array Value := (Lib.pow10Tab.map fun z => Value.int .u64 z).toArray
/-- A number in figures. -/
def dec (n : Int) : ByteArray := ⟨(Lib.itoa n).toArray⟩
/-- An error's variable: it holds an error. -/
def IsErr (cs : Array Value) : Prop := ∃ tp p, cs = #[.iface tp p]
def PR : FuncId → List AV → Option AV
  | 27, [.int .i64 n] => if -9223372036854775808 ≤ n ∧ n ≤ 9223372036854775807 then some (.str (dec n)) else none
  | 15, [.str s] => if s.size ≤ 281474976710656 then some (.tup [.int .i64 (numW s.data.toList).1, .bool (numW s.data.toList).2]) else none
  | 32, [.str s, .str t] => if t.size = 1 then some (.int .i64 (Lib.countByte s.data.toList (sget t 0))) else none
  | 33, [.str s, .str t] => if t.size = 1 then some (.int .i64 (Lib.indexByte s.data.toList (sget t 0))) else none
  | _, _ => none
def PI : FuncId → List AV → Mem → Option (AV × Mem)
  | 58, l, m => checkI l m
  | 59, l, m => growI l m
  | _, _, _ => none
noncomputable abbrev CC : Ctx := { P := Tryd.prog, glob := fun _ => none, share := [], tabs := [(5, (· = pow10Cells)), (1, IsErr), (2, IsErr)], snaps := [], snapA := [], pI := PI }
theorem itoa_eq (n : Int) (h0 : -9223372036854775808 ≤ n) (h1 : n ≤ 9223372036854775807) : fnA CC PR 27 [.int .i64 n] = some (.str (dec n)) :=
  fnA_prim CC PR (by simp [PR, h0, h1])
theorem itoa_pure {C : Ctx} (hP : C.P = Tryd.prog) (hok : ProgOk C.P) {G0 : Nat} (hg : Tryd.prog.globalNamed "internal/strconv.uint64pow10" = some G0) (ht : (G0, (· = pow10Cells)) ∈ C.tabs) (n : Int) (h0 : -9223372036854775808 ≤ n) (h1 : n ≤ 9223372036854775807) : PureOk C 27 [.int .i64 n] (.str (dec n)) := by
  obtain ⟨P, gl, sh, tb, sn, pI⟩ := C
  simp only at hP
  subst hP
  refine pure_grow (fun vs w => enter_ok hok Tryd.func27 rfl vs w) (fun G w vs hT hi hc hsz hr => ?_)
  obtain ⟨⟨t, fr, cs, hh, hcs⟩, _⟩ := hc.tabs _ ht
  have hcs' : cs = pow10Cells := hcs
  subst hcs'
  have htab : Lib.TabIs Tryd.prog w "internal/strconv.uint64pow10" .u64 Lib.pow10Tab := by
    show World.var? _ _ _ = _
    unfold World.var?
    rw [hg]
    simp only [Option.bind_some, hh]
    rfl
  have hv : vs = #[.int .i64 n] := by
    obtain ⟨l⟩ := vs
    cases l with
    | nil => simp at hsz
    | cons v l =>
      cases l with
      | cons _ _ => simp at hsz
      | nil =>
        have := hr 0 v _ rfl rfl
        obtain rfl := rep_int this
        rfl
  subst hv
  refine (Tryd.strconv_Itoa n h0 h1 w htab).mono ?_
  rintro e w' ⟨rfl, k, os, rfl⟩
  exact ⟨_, rfl, fun G => .str _ _, grown⟩
theorem numberOf_pure {C : Ctx} (hP : C.P = Tryd.prog) (hok : ProgOk C.P) {G0 : Nat} (hg : Tryd.prog.globalNamed "internal/strconv.uint64pow10" = some G0) (ht : (G0, (· = pow10Cells)) ∈ C.tabs) (ht1 : (1, IsErr) ∈ C.tabs) (ht2 : (2, IsErr) ∈ C.tabs) (s : ByteArray) (hs : s.size ≤ 281474976710656) : PureOk C 15 [.str s] (.tup [.int .i64 (numW s.data.toList).1, .bool (numW s.data.toList).2]) := by
  obtain ⟨P, gl, sh, tb, sn, pI⟩ := C
  simp only at hP
  subst hP
  refine pure_grow (fun vs w => enter_ok hok Tryd.func15 rfl vs w) (fun G w vs hT hi hc hsz hr => ?_)
  obtain ⟨⟨t, fr, cs, hh, hcs⟩, _⟩ := hc.tabs _ ht
  have hcs' : cs = pow10Cells := hcs
  subst hcs'
  have htab : Lib.TabIs Tryd.prog w "internal/strconv.uint64pow10" .u64 Lib.pow10Tab := by
    show World.var? _ _ _ = _
    unfold World.var?
    rw [hg]
    simp only [Option.bind_some, hh]
    rfl
  obtain ⟨⟨t1, fr1, cs1, hh1, tp1, p1, rfl⟩, _⟩ := hc.tabs _ ht1
  obtain ⟨⟨t2, fr2, cs2, hh2, tp2, p2, rfl⟩, _⟩ := hc.tabs _ ht2
  have hv : vs = #[.string s] := by
    obtain ⟨l⟩ := vs
    cases l with
    | nil => simp at hsz
    | cons v l =>
      cases l with
      | cons _ _ => simp at hsz
      | nil =>
        have := hr 0 v _ rfl rfl
        obtain rfl := rep_str this
        rfl
  subst hv
  refine (Tryd.numberOf_calls s hs (.iface tp1 p1) (.iface tp2 p2) w ?_ (.inr ⟨_, _, rfl⟩) ?_ (.inr ⟨_, _, rfl⟩) htab).mono ?_
  · simp only [World.cell?, hh1]
    rfl
  · simp only [World.cell?, hh2]
    rfl
  rintro e w' ⟨rfl, hb⟩
  refine ⟨_, rfl, fun G => .tup _ _ _ rfl fun j v c hv hc => ?_, hb.os, hb.tape, hb.output, hb.size, hb.block⟩
  match j with
  | 0 =>
    simp only [List.getElem?_toArray, List.getElem?_cons_zero, Option.some.injEq] at hv hc
    subst hv hc
    exact .int _ _ _
  | 1 =>
    simp only [List.getElem?_toArray, List.getElem?_cons_zero, List.getElem?_cons_succ, Option.some.injEq] at hv hc
    subst hv hc
    exact .bool _ _
  | j + 2 => simp at hc
theorem two_str {G : Gh} {vs : Array Value} {s t : ByteArray} (hsz : vs.size = [AV.str s, AV.str t].length) (hr : ∀ (j : Nat) v a, vs[j]? = some v → [AV.str s, AV.str t][j]? = some a → Rep G v a) : vs = #[.string s, .string t] := by
  obtain ⟨l⟩ := vs
  match l, hsz with
  | [v, u], _ =>
    have h0 := hr 0 v _ rfl rfl
    have h1 := hr 1 u _ rfl rfl
    obtain rfl := rep_str h0
    obtain rfl := rep_str h1
    rfl
theorem one_byte {t : ByteArray} (ht : t.size = 1) : t = ⟨#[sget t 0]⟩ := by
  obtain ⟨a⟩ := t
  have h : a.size = 1 := ht
  rw [ByteArray.mk.injEq]
  refine Array.ext (by simpa using h) fun i h1 h2 => ?_
  have : i = 0 := by simp at h2; omega
  subst this
  simp [sget, h1]
theorem count_pure {C : Ctx} (hP : C.P = Tryd.prog) (hok : ProgOk C.P) (s t : ByteArray) (ht : t.size = 1) : PureOk C 32 [.str s, .str t] (.int .i64 (Lib.countByte s.data.toList (sget t 0))) := by
  obtain ⟨P, gl, sh, tb, sn, pI⟩ := C
  simp only at hP
  subst hP
  refine pure_grow (fun vs w => enter_ok hok Tryd.func32 rfl vs w) (fun G w vs hT hi hc hsz hr => ?_)
  obtain rfl := two_str hsz hr
  have e := one_byte ht
  generalize sget t 0 = c at e ⊢
  subst e
  refine (Tryd.strings_Count_one s c w).mono ?_
  rintro e w' ⟨rfl, rfl⟩
  exact ⟨_, rfl, fun G => .int _ _ _, rfl, rfl, rfl, Nat.le_refl _, fun _ _ => rfl⟩
theorem index_pure {C : Ctx} (hP : C.P = Tryd.prog) (hok : ProgOk C.P) (s t : ByteArray) (ht : t.size = 1) : PureOk C 33 [.str s, .str t] (.int .i64 (Lib.indexByte s.data.toList (sget t 0))) := by
  obtain ⟨P, gl, sh, tb, sn, pI⟩ := C
  simp only at hP
  subst hP
  refine pure_grow (fun vs w => enter_ok hok Tryd.func33 rfl vs w) (fun G w vs hT hi hc hsz hr => ?_)
  obtain rfl := two_str hsz hr
  have e := one_byte ht
  generalize sget t 0 = c at e ⊢
  subst e
  refine (Tryd.strings_Index_one s c w).mono ?_
  rintro e w' ⟨rfl, rfl⟩
  exact ⟨_, rfl, fun G => .int _ _ _, rfl, rfl, rfl, Nat.le_refl _, fun _ _ => rfl⟩
end Go.Ev.Tryd
