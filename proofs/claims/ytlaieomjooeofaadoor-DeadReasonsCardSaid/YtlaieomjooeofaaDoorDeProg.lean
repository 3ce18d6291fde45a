/- Dead: the program and its tables; the arguments of its laws. -/
import Derived.Test.YtlaieomjooeofaaDoorAbLaid
import Derived.Test.YtlaieomjooeofaaDoorAbEq
import Derived.Test.YtlaieomjooeofaaDoorShelf
import Derived.Test.YtlaieomjooeofaaDoorRows
import Derived.Test.YtlaieomjooeofaaDoorDe6
import Derived.LaidHandle
import Derived.LaidLaws
import Derived.Lay
namespace Go.Proofs.YtlaieomjooeofaaDoor.Ab
open Go
set_option maxRecDepth 100000

theorem tabOk : TabOk Tryd.prog tys := ⟨tys_ok, by kernel_rfl⟩
theorem structs_ok : structsB Tryd.prog tys = true := by kernel_rfl
theorem names_ok : (Tryd.prog.funcs.toList.all fun g => !(g.name == "runtime.NumGoroutine")) = true := by kernel_rfl
theorem apartOk : ApartOk Tryd.prog E0 := by
  intro g hg
  have : g = 70 := Nat.eq_of_beq_eq_true hg
  subst this
  exact ⟨Tryd.f70, 24, 4, 35, 2, by kernel_rfl, by kernel_rfl, by kernel_rfl, by kernel_rfl, by kernel_rfl, by kernel_rfl, fun w => tabOk.size_pos (t := 35) (by decide) w⟩
theorem fsOk (f : Nat) (fn : Func) (h : E0.fs f = some fn) : Tryd.prog.funcs[f]? = some fn ∧ (fn.name == "runtime.NumGoroutine") = false := by
  have h1 : fns.getD f none = some fn := by
    have h : cond (leafL.elem f) none (fns.getD f none) = some fn := h
    cases hl : leafL.elem f <;> rw [hl] at h
    · exact h
    · cases h
  rw [← fns_ok, List.getD_eq_getElem?_getD, List.getElem?_map] at h1
  cases hx : Tryd.prog.funcs.toList[f]? with
  | none => rw [hx] at h1; cases h1
  | some g =>
    rw [hx] at h1
    simp only [Option.map_some, Option.getD_some, Option.some.injEq] at h1
    subst h1
    refine ⟨by simpa using hx, ?_⟩
    have := List.all_eq_true.1 names_ok g (List.mem_of_getElem? hx)
    simpa using this
theorem progOk : ProgOk Tryd.prog E0 where
  tab := tabOk
  eq := eqOk tabOk (structsOk_of structs_ok)
  apart := apartOk
  mix := by kernel_rfl
  fs := fsOk
  leaf := orLeaf_sound (itoaLeaf_sound (V := 1) ⟨Tryd.f34, Tryd.func34, by kernel_rfl, by kernel_rfl⟩ rfl (by simp [fxT]) (by kernel_rfl) (fun n h0 h1 w ht => Tryd.strconv_Itoa n h0 h1 w ht))
    (orLeaf_sound (scLeaf_sound ⟨Tryd.f54, Tryd.func54, by kernel_rfl, by kernel_rfl⟩ rfl fun args r h w => by obtain ⟨a, b, rfl, rfl⟩ := h; exact Tryd.strings_Compare a b w)
      (orLeaf_sound (scLeaf_sound ⟨Tryd.f61, Tryd.func61, by kernel_rfl, by kernel_rfl⟩ rfl fun args r h w => by obtain ⟨s, c, rfl, rfl⟩ := h; exact Tryd.stringslite_Index_one s c w)
        (scLeaf_sound ⟨Tryd.f68, Tryd.func68, by kernel_rfl, by kernel_rfl⟩ rfl fun args r h w => by obtain ⟨x, hx, rfl, rfl⟩ := h; exact Tryd.bits_Len x w hx.1 hx.2)))
  leafFeas := orLeaf_feas (itoaLeaf_feas 34) (orLeaf_feas (scLeaf_feas 54 rel54) (orLeaf_feas (scLeaf_feas 61 rel61) (scLeaf_feas 68 rel68)))

/-! The table that the rows list -/
def laidL : List (String × DataW Unit) := [("math/bits.deBruijn32tab", Rows.laid_math_bits_deBruijn32tab), ("math/bits.deBruijn64tab", Rows.laid_math_bits_deBruijn64tab), ("internal/strconv.uint64pow10", Rows.laid_internal_strconv_uint64pow10), ("unicode/utf8.acceptRanges", Rows.laid_unicode_utf8_acceptRanges), ("unicode/utf8.first", Rows.laid_unicode_utf8_first)]
theorem door_met (os : Os) (args : Array Value) : laidMetH Tryd.prog laidL ((World.laidAll Tryd.prog os laidL).forCall (fun _ _ => 0) ⟨#[], args, []⟩).memory := by
  rw [MakeChecks.laidMetH_plain _ _ _ (by kernel_rfl)]
  exact laidMet_laidAll _ (by kernel_rfl) (by kernel_rfl)
theorem fx_of_laid {W : World} (h : laidMetH Tryd.prog laidL W) : ∀ p ∈ fxT, p.1 < W.heap.size ∧ FixAt W p := by
  rw [MakeChecks.laidMetH_plain _ _ _ (by kernel_rfl)] at h
  intro p hp
  have hp : p = (1, IntKind.u64, Lib.pow10Tab) := by simpa [fxT] using hp
  subst hp
  exact fixAt_of_laid (P := Tryd.prog) (name := "internal/strconv.uint64pow10") (t := 103) (e := 83) (n := 20) (by kernel_rfl) (by kernel_rfl) (by kernel_rfl) (by kernel_rfl) (by kernel_rfl) (by kernel_rfl) h
    (by
      have e : (Rows.laid_internal_strconv_uint64pow10 : DataW Unit) = Lib.tabData .u64 Lib.pow10Tab := by kernel_rfl
      rw [← e]
      simp [laidL])

/-! The arguments -/
theorem k_23 : (ti tys 23).k = .struct [(0, 9), (1, 3), (2, 3), (3, 3), (4, 9)] := rfl
theorem k_24 : (ti tys 24).k = .slice 35 := rfl
theorem k_26 : (ti tys 26).k = .struct [(0, 9), (1, 9), (2, 3), (3, 4), (4, 3), (5, 3), (6, 9), (7, 3), (8, 24)] := rfl
theorem k_28 : (ti tys 28).k = .struct [(0, 3), (1, 3), (2, 3), (3, 26)] := rfl
theorem k_35 : (ti tys 35).k = .struct [(0, 9), (1, 9)] := rfl
theorem wt_int {d : Nat} {x : List AV} (h : WT tys (d + 1) 3 x) : ∃ n : Int, x = [.int .i64 n] ∧ -9223372036854775808 ≤ n ∧ n ≤ 9223372036854775807 := h
theorem wt_bool {d : Nat} {x : List AV} (h : WT tys (d + 1) 4 x) : ∃ b : Bool, x = [.bool b] := h
theorem wt_str {d : Nat} {x : List AV} (h : WT tys (d + 1) 9 x) : ∃ s : ByteArray, x = [.str s] ∧ s.size ≤ 140737488351232 := h
theorem rows_of_wt {α : Type} {f : α → List AV} {p : α → Prop} {q : List AV → Prop} (hq : ∀ x, q x → ∃ a, x = f a ∧ p a) : ∀ xs : List (List AV), (∀ x ∈ xs, q x) → ∃ l : List α, xs = l.map f ∧ ∀ a ∈ l, p a
  | [], _ => ⟨[], rfl, by simp⟩
  | x :: xs, h => by
    obtain ⟨a, rfl, ha⟩ := hq x (h x (by simp))
    obtain ⟨l, rfl, hl⟩ := rows_of_wt hq xs (fun y hy => h y (by simp [hy]))
    exact ⟨a :: l, rfl, fun b hb => (List.mem_cons.1 hb).elim (fun e => e ▸ ha) (hl b)⟩
theorem arg_int {a : AV} (h : ArgOk tys 5 3 a) : ∃ n : Int, a = .int .i64 n ∧ -9223372036854775808 ≤ n ∧ n ≤ 9223372036854775807 := by
  obtain ⟨n, hn, h1, h2⟩ : ∃ n, [a] = [AV.int .i64 n] ∧ IntKind.i64.min ≤ n ∧ n ≤ IntKind.i64.max := h
  cases hn
  exact ⟨n, rfl, h1, h2⟩
theorem arg_str {a : AV} (h : ArgOk tys 5 9 a) : ∃ s : ByteArray, a = .str s := by
  obtain ⟨s, hs, _⟩ := wt_str (d := 4) (show WT tys 5 9 [a] from h)
  simp only [List.cons.injEq, and_true] at hs
  exact ⟨s, hs⟩
theorem wt_prop {d : Nat} {x : List AV} (h : WT tys (d + 2) 35 x) : ∃ p : Pp, x = p.enc := by
  simp only [WT, k_35, List.map_cons, List.map_nil, WTs] at h
  obtain ⟨a, r, rfl, ha, b, r, rfl, hb, rfl⟩ := h
  obtain ⟨s, rfl, _⟩ := wt_str (d := d) ha
  obtain ⟨t, rfl, _⟩ := wt_str (d := d) hb
  exact ⟨⟨s, t⟩, rfl⟩
theorem wt_props {d : Nat} {x : List AV} (h : WT tys (d + 3) 24 x) : ∃ l : List Pp, x = [.sl 0 2 (props l)] := by
  simp only [WT, k_24] at h
  obtain ⟨xs, rfl, _, hb, hr⟩ := h
  obtain ⟨l, rfl, _⟩ := rows_of_wt (f := Pp.enc) (p := fun _ => True) (q := fun x => WT tys (d + 2) 35 x) (fun x hx => by
    obtain ⟨p, rfl⟩ := wt_prop hx
    exact ⟨p, rfl, trivial⟩) xs fun x hx => (hr x hx).2
  exact ⟨l, rfl⟩
theorem wt_msg {d : Nat} {x : List AV} (h : WT tys (d + 4) 26 x) : ∃ (t p : ByteArray) (lv : Int) (re : Bool) (pr ex : Int) (fr : ByteArray) (sq : Int) (l : List Pp),
    x = [.str t, .str p, .int .i64 lv, .bool re, .int .i64 pr, .int .i64 ex, .str fr, .int .i64 sq, .sl 0 2 (props l)] := by
  simp only [WT, k_26, List.map_cons, List.map_nil, WTs] at h
  obtain ⟨_, _, rfl, h0, _, _, rfl, h1, _, _, rfl, h2, _, _, rfl, h3, _, _, rfl, h4, _, _, rfl, h5, _, _, rfl, h6, _, _, rfl, h7, _, _, rfl, h8, rfl⟩ := h
  obtain ⟨t, rfl, _⟩ := wt_str (d := d + 2) h0
  obtain ⟨p, rfl, _⟩ := wt_str (d := d + 2) h1
  obtain ⟨lv, rfl, _⟩ := wt_int (d := d + 2) h2
  obtain ⟨re, rfl⟩ := wt_bool (d := d + 2) h3
  obtain ⟨pr, rfl, _⟩ := wt_int (d := d + 2) h4
  obtain ⟨ex, rfl, _⟩ := wt_int (d := d + 2) h5
  obtain ⟨fr, rfl, _⟩ := wt_str (d := d + 2) h6
  obtain ⟨sq, rfl, _⟩ := wt_int (d := d + 2) h7
  obtain ⟨l, rfl⟩ := wt_props (d := d) h8
  exact ⟨t, p, lv, re, pr, ex, fr, sq, l, rfl⟩
theorem arg_msg {a : AV} (h : ArgOk tys 5 26 a) : ∃ (t p : ByteArray) (lv : Int) (re : Bool) (pr ex : Int) (fr : ByteArray) (sq : Int) (l : List Pp),
    a = .agg [.str t, .str p, .int .i64 lv, .bool re, .int .i64 pr, .int .i64 ex, .str fr, .int .i64 sq, .sl 0 2 (props l)] := by
  obtain ⟨cs, rfl, h⟩ : ∃ cs, a = .agg cs ∧ WT tys 5 26 cs := h
  obtain ⟨t, p, lv, re, pr, ex, fr, sq, l, rfl⟩ := wt_msg (d := 1) h
  exact ⟨t, p, lv, re, pr, ex, fr, sq, l, rfl⟩
theorem arg_spec {a : AV} (h : ArgOk tys 5 23 a) : ∃ (n : ByteArray) (mx ttl att : Int) (d : ByteArray), a = .agg [.str n, .int .i64 mx, .int .i64 ttl, .int .i64 att, .str d] := by
  obtain ⟨cs, rfl, h⟩ : ∃ cs, a = .agg cs ∧ WT tys 5 23 cs := h
  simp only [WT, k_23, List.map_cons, List.map_nil, WTs] at h
  obtain ⟨_, _, rfl, h0, _, _, rfl, h1, _, _, rfl, h2, _, _, rfl, h3, _, _, rfl, h4, rfl⟩ := h
  obtain ⟨n, rfl, _⟩ := wt_str (d := 3) h0
  obtain ⟨mx, rfl, _⟩ := wt_int (d := 3) h1
  obtain ⟨ttl, rfl, _⟩ := wt_int (d := 3) h2
  obtain ⟨att, rfl, _⟩ := wt_int (d := 3) h3
  obtain ⟨d, rfl, _⟩ := wt_str (d := 3) h4
  exact ⟨n, mx, ttl, att, d, rfl⟩
theorem arg_entry {a : AV} (h : ArgOk tys 5 28 a) : ∃ (nr arr eatt : Int) (t p : ByteArray) (lv : Int) (re : Bool) (pr ex : Int) (fr : ByteArray) (sq : Int) (l : List Pp),
    a = .agg [.int .i64 nr, .int .i64 arr, .int .i64 eatt, .str t, .str p, .int .i64 lv, .bool re, .int .i64 pr, .int .i64 ex, .str fr, .int .i64 sq, .sl 0 2 (props l)] := by
  obtain ⟨cs, rfl, h⟩ : ∃ cs, a = .agg cs ∧ WT tys 5 28 cs := h
  simp only [WT, k_28, List.map_cons, List.map_nil, WTs] at h
  obtain ⟨_, _, rfl, h0, _, _, rfl, h1, _, _, rfl, h2, _, _, rfl, h3, rfl⟩ := h
  obtain ⟨nr, rfl, _⟩ := wt_int (d := 3) h0
  obtain ⟨arr, rfl, _⟩ := wt_int (d := 3) h1
  obtain ⟨eatt, rfl, _⟩ := wt_int (d := 3) h2
  obtain ⟨t, p, lv, re, pr, ex, fr, sq, l, rfl⟩ := wt_msg (d := 0) h3
  exact ⟨nr, arr, eatt, t, p, lv, re, pr, ex, fr, sq, l, rfl⟩
end Go.Proofs.YtlaieomjooeofaaDoor.Ab
