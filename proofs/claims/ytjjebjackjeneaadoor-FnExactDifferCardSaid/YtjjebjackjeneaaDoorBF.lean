/- Part of the proof of a statement about the given program: BF. No condition of its own. -/
import Derived.Test.YtjjebjackjeneaaDoorEvTyF
import Derived.Test.YtjjebjackjeneaaDoorKF
import Derived.Test.YtjjebjackjeneaaDoorShE
import Derived.Test.YtjjebjackjeneaaDoorEvPrim
namespace Go.Ev.Tryd
open Go.Proofs
def pow10Cells : Array Value := (Lib.pow10Tab.map fun z => Value.int .u64 z).toArray
/-- A number in figures. -/
def dec (n : Int) : ByteArray := ⟨(Lib.itoa n).toArray⟩
/-- An error's variable: it holds an error. -/
def IsErr (cs : Array Value) : Prop := ∃ tp p, cs = #[.iface tp p]
def PR : FuncId → List AV → Option AV
  | 66, [.int .i64 n] => if -9223372036854775808 ≤ n ∧ n ≤ 9223372036854775807 then some (.str (dec n)) else none
  | 84, [.str s, .str t] => if t.size = 1 then some (.bool (decide (0 ≤ Lib.indexByte s.data.toList (sget t 0)))) else none
  | 55, [.slice 1 []] => some (.slice 1 [])
  | _, _ => none
def PI : FuncId → List AV → Mem → Option (AV × Mem)
  | 86, l, m => checkI l m
  | 88, l, m => growI l m
  | 83, l, m => growS l m
  | _, _, _ => none
noncomputable abbrev CC : Ctx := { P := Tryd.prog, glob := fun _ => none, share := [96, 83, 8, 27, 19, 12, 31, 22, 13, 20, 16, 9, 34, 29, 52, 70, 51, 36, 55], tabs := [(0, (· = pow10Cells))], snaps := [], snapA := [], pI := PI }
theorem itoa_eq (n : Int) (h0 : -9223372036854775808 ≤ n) (h1 : n ≤ 9223372036854775807) : fnA CC PR 66 [.int .i64 n] = some (.str (dec n)) :=
  fnA_prim CC PR (by simp [PR, h0, h1])
theorem itoa_pure {C : Ctx} (hP : C.P = Tryd.prog) (hok : ProgOk C.P) {G0 : Nat} (hg : Tryd.prog.globalNamed "internal/strconv.uint64pow10" = some G0) (ht : (G0, (· = pow10Cells)) ∈ C.tabs) (n : Int) (h0 : -9223372036854775808 ≤ n) (h1 : n ≤ 9223372036854775807) : PureOk C 66 [.int .i64 n] (.str (dec n)) := by
  obtain ⟨P, gl, sh, tb, sn, pI⟩ := C
  simp only at hP
  subst hP
  refine pure_grow (fun vs w => enter_ok hok Tryd.func66 rfl vs w) (fun G w vs hT hi hc hsz hr => ?_)
  obtain ⟨⟨t, fr, cs, hh, hcs⟩, _⟩ := hc.tabs _ ht
  have hcs' : cs = pow10Cells := hcs
  subst hcs'
  have htab : Lib.TabIs Tryd.prog w "internal/strconv.uint64pow10" .u64 Lib.pow10Tab := by
    show World.var? _ _ _ = _
    unfold World.var?
    rw [hg]
    simp only [Option.bind_some, hh]
    rfl
  have hv : vs = #[.int .i64 n] := by
    obtain ⟨l⟩ := vs
    cases l with
    | nil => simp at hsz
    | cons v l =>
      cases l with
      | cons _ _ => simp at hsz
      | nil =>
        have := hr 0 v _ rfl rfl
        obtain rfl := rep_int this
        rfl
  subst hv
  refine (Tryd.strconv_Itoa n h0 h1 w htab).mono ?_
  rintro e w' ⟨rfl, k, os, rfl⟩
  exact ⟨_, rfl, fun G => .str _ _, grown⟩
theorem contains_pure {C : Ctx} (hP : C.P = Tryd.prog) (hok : ProgOk C.P) (s t : ByteArray) (ht : t.size = 1) : PureOk C 84 [.str s, .str t] (.bool (decide (0 ≤ Lib.indexByte s.data.toList (sget t 0)))) := by
  obtain ⟨P, gl, sh, tb, sn, pI⟩ := C
  simp only at hP
  subst hP
  obtain ⟨c, rfl⟩ : ∃ c, t = ⟨#[c]⟩ := by
    obtain ⟨a⟩ := t
    have h : a.size = 1 := ht
    exact ⟨a[0]'(by omega), by rw [ByteArray.mk.injEq]; exact Array.ext (by simpa using h) (fun i h1 h2 => by have : i = 0 := by omega
                                                                                                              subst this; rfl)⟩
  refine pure_grow (fun vs w => enter_ok hok Tryd.func84 rfl vs w) (fun G w vs hT hi hc hsz hr => ?_)
  have hv : vs = #[.string s, .string ⟨#[c]⟩] := by
    obtain ⟨l⟩ := vs
    match l, hsz with
    | [a, b], _ =>
      obtain rfl := rep_str (hr 0 a _ rfl rfl)
      obtain rfl := rep_str (hr 1 b _ rfl rfl)
      rfl
  subst hv
  refine (Tryd.strings_Contains_one s c w).mono ?_
  rintro e w' ⟨rfl, rfl⟩
  exact ⟨_, rfl, fun G => .bool _ _, rfl, rfl, rfl, Nat.le_refl _, fun _ _ => rfl⟩
theorem clone_pure {C : Ctx} (hP : C.P = Tryd.prog) (hok : ProgOk C.P) : PureOk C 55 [.slice 1 []] (.slice 1 []) := by
  obtain ⟨P, gl, sh, tb, sn, pI⟩ := C
  simp only at hP
  subst hP
  refine pure_grow (fun vs w => enter_ok hok Tryd.func55 rfl vs w) (fun G w vs hT hi hc hsz hr => ?_)
  obtain ⟨v, rfl⟩ : ∃ v, vs = #[v] := by
    obtain ⟨l⟩ := vs
    match l, hsz with
    | [a], _ => exact ⟨a, rfl⟩
  have h0 := hr 0 v _ rfl rfl
  have key : v = .slice none 0 0 ∨ ∃ a cap, v = .slice (some a) 0 cap := by
    cases h0 with
    | slice0 => exact .inl rfl
    | sliceE _ a cap => exact .inr ⟨a, cap, rfl⟩
    | slice _ b off n cap sz xs vs hn => 
      obtain rfl : 0 = n := hn
      exact .inr ⟨_, _, rfl⟩
  rcases key with rfl | ⟨a, cap, rfl⟩
  · refine (Tryd.Clone_nil w).mono ?_
    rintro e w' ⟨rfl, rfl⟩
    exact ⟨_, rfl, fun G => .slice0 _ _, rfl, rfl, rfl, Nat.le_refl _, fun _ _ => rfl⟩
  · refine (Tryd.Clone_empty a cap w).mono ?_
    rintro e w' ⟨b, rfl, rfl⟩
    exact ⟨_, rfl, fun G => .sliceE _ _ _ _, rfl, rfl, rfl, by show w.heap.size ≤ (w.heap.push _).size; simp, fun k hk => Lib.alloc_old w _ k hk⟩
theorem clone_nil : fnA CC PR 55 [.slice 1 []] = some (.slice 1 []) := fnA_prim CC PR rfl
end Go.Ev.Tryd
