/- Disk: the laws. -/
import Derived.Test.YtbkkhhmjmbbfpaaDkW
namespace Go.Proofs.Ytbkkhhmjmbbfpaa.Ab
open Go
set_option maxHeartbeats 2000000
set_option linter.unusedVariables false
set_option linter.unusedSimpArgs false

abbrev nF : ByteArray := ⟨#[102]⟩
abbrev nOwn : ByteArray := ⟨#[111, 119, 110]⟩
theorem name_f : nameB nF = true := by decide
theorem name_own : nameB nOwn = true := by decide
theorem put_nil (f : Df) : dput [] f = [f] := rfl
theorem put_one {f g : Df} (h : g.nm = f.nm) : dput [f] g = [g] := by
  simp only [dput, dwithout, List.filter_cons, List.filter_nil, h, eqS_t rfl, Bool.not_true, Bool.false_eq_true, if_false, List.nil_append]
theorem get_one (f : Df) : dget [f] f.nm = some f := by simp only [dget, List.find?_cons, eqS_t rfl]
theorem app_nil {n s : ByteArray} (hn : nameB n = true) (hs : s.size ≤ 65536) : appD [] n s = ([⟨n, s, 0⟩], 0) := by
  have e0 : (⟨#[]⟩ : ByteArray) ++ s = s := by apply ByteArray.ext; simp
  simp only [appD, hn, if_true, dget, List.find?_nil, if_neg (show ¬ 65536 < s.size by omega), put_nil, e0]
theorem app_one {n s t : ByteArray} {k : Nat} (hn : nameB n = true) (hs : t.size + s.size ≤ 65536) : appD [⟨n, t, k⟩] n s = ([⟨n, t ++ s, k⟩], 0) := by
  have hg : dget [⟨n, t, k⟩] n = some (⟨n, t, k⟩ : Df) := get_one ⟨n, t, k⟩
  simp only [appD, hn, if_true, hg, if_neg (show ¬ 65536 < t.size + s.size by omega)]
  rw [put_one (f := ⟨n, t, k⟩) (g := ⟨n, t ++ s, k⟩) rfl]
theorem app_full {n s t : ByteArray} {k : Nat} (hn : nameB n = true) (hs : 65536 < t.size + s.size) : appD [⟨n, t, k⟩] n s = ([⟨n, t, k⟩], 6) := by
  have hg : dget [⟨n, t, k⟩] n = some (⟨n, t, k⟩ : Df) := get_one ⟨n, t, k⟩
  simp only [appD, hn, if_true, hg, if_pos hs]
theorem syn_one {n t : ByteArray} {k : Nat} : synD [⟨n, t, k⟩] n = ([⟨n, t, t.size⟩], 0) := by
  have hg : dget [⟨n, t, k⟩] n = some (⟨n, t, k⟩ : Df) := get_one ⟨n, t, k⟩
  simp only [synD, hg]
  rw [put_one (f := ⟨n, t, k⟩) (g := ⟨n, t, t.size⟩) rfl]
theorem cr_one {f : Df} {z : Int} : crashD [f] [[.int .i64 z]] = [crF f z] := rfl
theorem one_int {z : Int} : ∀ r ∈ [[AV.int .i64 z]], (ce r 0).isInt .i64 = true := by
  intro r hr
  rw [List.mem_singleton.1 hr]
  rfl
theorem F8.eq : F8.P = some (.bool true) := by
  unfold F8.P NewD.B
  refine anyJ_eq fun j => ?_
  have u1 : unbytes [[.int .u8 97], [.int .u8 98], [.int .u8 99], [.int .u8 100]] = some (⟨#[97, 98, 99, 100]⟩ : ByteArray) := unbytes_bytes ⟨#[97, 98, 99, 100]⟩
  have u2 : unbytes [[.int .u8 120], [.int .u8 121], [.int .u8 122]] = some (⟨#[120, 121, 122]⟩ : ByteArray) := unbytes_bytes ⟨#[120, 121, 122]⟩
  have a1 : appD [] nF ⟨#[97, 98, 99, 100]⟩ = ([⟨nF, ⟨#[97, 98, 99, 100]⟩, 0⟩], 0) := app_nil name_f (by decide)
  have a2 : synD [⟨nF, ⟨#[97, 98, 99, 100]⟩, 0⟩] nF = ([⟨nF, ⟨#[97, 98, 99, 100]⟩, 4⟩], 0) := syn_one
  have a3 : appD [⟨nF, ⟨#[97, 98, 99, 100]⟩, 4⟩] nF ⟨#[120, 121, 122]⟩ = ([⟨nF, ⟨#[97, 98, 99, 100, 120, 121, 122]⟩, 4⟩], 0) := app_one name_f (by decide)
  have a4 : crashD [⟨nF, ⟨#[97, 98, 99, 100, 120, 121, 122]⟩, 4⟩] [[.int .i64 2]] = [⟨nF, ⟨#[97, 98, 99, 100, 120, 121]⟩, 6⟩] := by
    rw [cr_one]
    have : crN ⟨nF, ⟨#[97, 98, 99, 100, 120, 121, 122]⟩, 4⟩ 2 = 6 := by decide
    simp only [crF, this]
    congr 2
  have a5 : dget [⟨nF, ⟨#[97, 98, 99, 100, 120, 121]⟩, 6⟩] nF = some ⟨nF, ⟨#[97, 98, 99, 100, 120, 121]⟩, 6⟩ := get_one ⟨nF, ⟨#[97, 98, 99, 100, 120, 121]⟩, 6⟩
  have n1 : nms [⟨nF, ⟨#[97, 98, 99, 100, 120, 121]⟩, 6⟩] = [[.str nF]] := rfl
  simp only [HS, PS, ite_t]
  rw [AppD.eq u1 (by decide), a1]
  simp only [HS, PS, ite_t, ite_f]
  rw [SyncD.eq, a2]
  simp only [HS, PS, ite_t, ite_f]
  rw [AppD.eq u2 (by decide), a3]
  simp only [HS, PS, ite_t, ite_f]
  rw [CrashD.eq (by decide) one_int, a4]
  simp only [HS, PS, ite_t, ite_f, List.length_nil]
  rw [ReadD.some a5]
  simp only [HS, PS, ite_t, ite_f, List.length_cons, List.length_nil]
  rw [unbytes_bytes, bind_s, if_pos rfl, NamesD.eq (by decide), n1]
  rfl
theorem F8.bind {β : Type} {k : AV → Option β} : (F8.P).bind k = k (.bool true) := by rw [F8.eq]; rfl
theorem extract_app {a b : ByteArray} {n : Nat} (h : n ≤ b.size) : (a ++ b).extract 0 (a.size + n) = a ++ b.extract 0 n := by
  refine bs_inj ?_
  have ha : a.size = a.data.toList.length := rfl
  simp only [bs, ByteArray.data_extract, ByteArray.data_append, Array.toList_extract, Array.toList_append, List.extract_eq_take_drop, List.drop_zero, Nat.sub_zero]
  rw [ha, List.take_append, List.take_of_length_le (by omega), Nat.add_sub_cancel_left]
theorem F3.eq (a b : ByteArray) (z : Int) : F3.P (bytesAV a) (bytesAV b) z = some (.bool true) := by
  have hlen : ∀ s : ByteArray, lenI (bytesAV s) = (s.size : Int) := fun s => by simp only [lenI, bytes_len]
  unfold F3.P
  simp only [F8.bind, hlen]
  by_cases h1 : 400 < a.size
  · rw [if_pos (by rw [tt_lt]; omega)]; rfl
  rw [if_neg (by rw [tt_lt]; omega)]
  by_cases h2 : 400 < b.size
  · rw [if_pos (by rw [tt_lt]; omega)]; rfl
  rw [if_neg (by rw [tt_lt]; omega)]
  unfold NewD.B
  refine anyJ_eq fun j => ?_
  have a1 : appD [] nF a = ([⟨nF, a, 0⟩], 0) := app_nil name_f (by omega)
  have a2 : synD [⟨nF, a, 0⟩] nF = ([⟨nF, a, a.size⟩], 0) := syn_one
  have a3 : appD [⟨nF, a, a.size⟩] nF b = ([⟨nF, a ++ b, a.size⟩], 0) := app_one name_f (by omega)
  have hsz : (a ++ b).size = a.size + b.size := by simp
  have hn : crN ⟨nF, a ++ b, a.size⟩ z = a.size + min z.toNat b.size := by
    show a.size + min z.toNat ((a ++ b).size - a.size) = _
    rw [hsz]; omega
  have a4 : crF ⟨nF, a ++ b, a.size⟩ z = ⟨nF, a ++ b.extract 0 (min z.toNat b.size), a.size + min z.toNat b.size⟩ := by
    simp only [crF, hn]
    rw [extract_app (by omega)]
  have a5 : dget [⟨nF, a ++ b.extract 0 (min z.toNat b.size), a.size + min z.toNat b.size⟩] nF = some ⟨nF, a ++ b.extract 0 (min z.toNat b.size), a.size + min z.toNat b.size⟩ := get_one ⟨nF, _, _⟩
  have core : ∀ (m : Nat) (k : AV → Sg → Option AV), m = min z.toNat b.size → (∀ g, k (.tup [.sl 0 1 (bytesAV (a ++ b.extract 0 m)), .int .i64 0]) g = some (.bool true)) →
      CrashD.B [.obj j 0, .sl 0 1 [[.int .i64 z]]] (.on j [⟨nF, a ++ b, a.size⟩]) (fun v g => if (v.isTup && Nat.beq v.tupVs.length 0) = true then ReadD.B [.obj j 0, .str nF] g k else none) = some (.bool true) := by
    intro m k hm hk
    rw [CrashD.eq (by simp) one_int, cr_one, a4]
    simp only [HS, PS, ite_t, List.length_nil]
    rw [ReadD.some a5, ← hm]
    exact hk _
  simp only [HS, PS, ite_t, ite_f]
  rw [AppD.eq (unbytes_bytes a) (by omega), a1]
  simp only [HS, PS, ite_t, ite_f]
  rw [SyncD.eq, a2]
  simp only [HS, PS, ite_t, ite_f]
  rw [AppD.eq (unbytes_bytes b) (by omega), a3]
  simp only [HS, PS, ite_t, ite_f, not_true_eq_false]
  have tk : ∀ m : Nat, ((bytesAV b).take m).drop 0 = bytesAV (b.extract 0 m) := fun m => by rw [List.drop_zero, bytesAV_take]
  by_cases z1 : z < 0
  · rw [if_pos z1, if_neg (by omega)]
    refine core 0 _ (by omega) fun g => ?_
    simp only [HS, PS, ite_t, List.length_cons, List.length_nil]
    rw [unbytes_bytes, bind_s, unbytes_bytes, bind_s, if_pos (by omega), tk, unbytes_bytes, bind_s]
    rw [if_pos (by rw [ByteArray.size_extract]; omega), if_pos rfl]
  · rw [if_neg z1]
    by_cases z2 : (b.size : Int) < z
    · rw [if_pos z2]
      refine core b.size _ (by omega) fun g => ?_
      simp only [HS, PS, ite_t, List.length_cons, List.length_nil]
      rw [unbytes_bytes, bind_s, unbytes_bytes, bind_s, if_pos (by omega), if_pos (by omega), if_pos (by omega), Int.toNat_natCast, tk, unbytes_bytes, bind_s]
      rw [if_pos (by rw [ByteArray.size_extract]; omega), if_pos rfl]
    · rw [if_neg z2]
      refine core z.toNat _ (by omega) fun g => ?_
      simp only [HS, PS, ite_t, List.length_cons, List.length_nil]
      rw [unbytes_bytes, bind_s, unbytes_bytes, bind_s, if_pos (by omega), if_pos (by omega), if_pos (by omega), tk, unbytes_bytes, bind_s]
      rw [if_pos (by rw [ByteArray.size_extract]; omega), if_pos rfl]
end Go.Proofs.Ytbkkhhmjmbbfpaa.Ab
