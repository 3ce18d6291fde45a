/- Disk: more laws. -/
import Derived.Test.YtbkkhhmjmbbfpaaDkV
namespace Go.Proofs.Ytbkkhhmjmbbfpaa.Ab
open Go
set_option linter.unusedSimpArgs false
set_option maxHeartbeats 2000000
set_option linter.unusedVariables false
set_option linter.unusedSimpArgs false

theorem anyJ_const {β : Type} {v : β} : (anyJ fun _ => some v) = some v := anyJ_eq fun _ => rfl
/-! DiskFull -/
def zer (n : Nat) : ByteArray := ⟨(List.replicate n (0 : UInt8)).toArray⟩
theorem zer_av (n : Nat) : bytesAV (zer n) = List.replicate n [.int .u8 0] := by
  simp only [bytesAV, zer, List.map_replicate]
  rfl
theorem zer_size (n : Nat) : (zer n).size = n := by
  show ((List.replicate n (0 : UInt8)).toArray).size = n
  simp
theorem zer_app (a b : Nat) : zer a ++ zer b = zer (a + b) := by
  refine bs_inj ?_
  simp only [bs, zer, ByteArray.data_append, Array.toList_append, List.replicate_append_replicate]
def dkF (n i : Nat) : Dk := if i = 0 then [] else [⟨nF, zer (i * n), 0⟩]
theorem F4.loop {n : Nat} (h1 : 4096 ≤ n) (h2 : n ≤ 8192) : ∀ (r i : Nat), i + r = 17 → i * n ≤ 65536 → Ev (fun k => anyJ fun j => F4.PL (n : Int) k (.l0 j ((i * n : Nat) : Int) (i : Int) (.on j (dkF n i)))) (.bool true)
  | 0, i, hi, hn => by
    obtain rfl : i = 17 := by omega
    omega
  | r + 1, i, hi, hn => by
    have hu : unbytes (List.replicate n ([.int .u8 0] : List AV)) = some (zer n) := by rw [← zer_av]; exact unbytes_bytes _
    have hz := zer_size n
    have hs1 : (i + 1) * n = i * n + n := Nat.succ_mul i n
    have e1 : addW .i64 ((i * n : Nat) : Int) (n : Int) = (((i + 1) * n : Nat) : Int) := by rw [addW_eq (by omega) (by omega)]; omega
    have e2 : addW .i64 (i : Int) 1 = ((i + 1 : Nat) : Int) := by rw [addW_eq (by omega) (by omega)]; omega
    refine Ev.succ ?_
    simp only [F4.PL, e1, e2, Int.toNat_natCast, AppD.eq (n := nF) hu (by omega), F8.bind]
    by_cases hb : 65536 < (i + 1) * n
    · have hi0 : i ≠ 0 := by rintro rfl; omega
      have hd : dkF n i = [⟨nF, zer (i * n), 0⟩] := if_neg hi0
      have ha : appD (dkF n i) nF (zer n) = ([⟨nF, zer (i * n), 0⟩], 6) := by rw [hd]; exact app_full name_f (by rw [zer_size, zer_size]; omega)
      have hg : dget [⟨nF, zer (i * n), 0⟩] nF = some ⟨nF, zer (i * n), 0⟩ := get_one ⟨nF, _, _⟩
      simp only [ha]
      (simp (disch := first | omega | rfl) only [PS, ite_t, ite_f, ↓bind_s, List.length_cons, List.length_nil, addW_eq, subW_eq, if_pos, if_neg])
      simp only [ReadD.some hg]
      (simp (disch := first | omega | rfl) only [PS, ite_t, ite_f, ↓bind_s, List.length_cons, List.length_nil, addW_eq, subW_eq, if_pos, if_neg])
      have hlen : lenI (bytesAV (zer (i * n))) = ((i * n : Nat) : Int) := by simp only [lenI, bytes_len, zer_size]
      simp only [hlen]
      (simp (disch := first | omega | rfl) only [PS, ite_t, ite_f, ↓bind_s, List.length_cons, List.length_nil, addW_eq, subW_eq, if_pos, if_neg])
      refine Ev.succ ?_
      simp only [F4.PL, anyJ_const]
      exact Ev.const
    · have ih := F4.loop h1 h2 r (i + 1) (by omega) (by omega)
      have ha : appD (dkF n i) nF (zer n) = (dkF n (i + 1), 0) := by
        have hd : dkF n (i + 1) = [⟨nF, zer ((i + 1) * n), 0⟩] := if_neg (by omega)
        rw [hd]
        by_cases hi0 : i = 0
        · subst hi0
          rw [show dkF n 0 = [] from rfl, app_nil name_f (by rw [zer_size]; omega)]
          simp
        · rw [show dkF n i = [⟨nF, zer (i * n), 0⟩] from if_neg hi0, app_one name_f (by rw [zer_size, zer_size]; omega), zer_app, ← hs1]
      simp only [ha]
      (simp (disch := first | omega | rfl) only [PS, ite_t, ite_f, ↓bind_s, List.length_cons, List.length_nil, addW_eq, subW_eq, if_pos, if_neg])
      exact ih
theorem F4.eq (z : Int) : F4.P z = some (.bool true) := by
  refine lim_eq ?_
  simp only [F8.bind]
  by_cases h1 : z < 4096
  · (simp (disch := first | omega | rfl) only [PS, ite_t, ite_f, ↓bind_s, List.length_cons, List.length_nil, addW_eq, subW_eq, if_pos, if_neg])
    exact Ev.const
  by_cases h2 : 8192 < z
  · (simp (disch := first | omega | rfl) only [PS, ite_t, ite_f, ↓bind_s, List.length_cons, List.length_nil, addW_eq, subW_eq, if_pos, if_neg])
    exact Ev.const
  obtain ⟨n, rfl⟩ : ∃ n : Nat, z = (n : Int) := ⟨z.toNat, by omega⟩
  have ih := F4.loop (n := n) (by omega) (by omega) 17 0 rfl (by omega)
  simp only [Nat.zero_mul, Int.natCast_zero, show dkF n 0 = [] from rfl] at ih
  simp only [NewD.B, HS, PS, ite_t]
  (simp (disch := first | omega | rfl) only [PS, ite_t, ite_f, ↓bind_s, List.length_cons, List.length_nil, addW_eq, subW_eq, if_pos, if_neg])
  exact ih
end Go.Proofs.Ytbkkhhmjmbbfpaa.Ab
