/- strings.Builder, follow.put. -/
import Derived.Test.YteglomhhiacioaaGreatD4
import Derived.Test.YteglomhhiacioaaGreatFPut
namespace Go.Den.VvF
open Go.Proofs
set_option maxRecDepth 100000

/-- a builder's cells: its own number, its bytes' number, how many -/
def bldO (b d n : Nat) : AObj := .cells [ptr b 0, slv d 0 n capU] T_bld 0 false
def bld0 : AObj := .cells [.pointer none, .slice none 0 0] T_bld 0 false
def byO (l : List UInt8) : AObj := .cells (bytesV l) T_u8 0 false
theorem byO_flat (l : List UInt8) : FlatO (byO l) := .of (bytesV_scalar l)
def bldH (acc : List UInt8) : AHeap := hp 2 [(0, bldO 0 1 acc.length), (1, byO acc)]

theorem appS (H : AHeap) (t : List UInt8) : AppX E0 H T_bytes T_str T_u8 1 1 (str t) t.length (bytesV t) :=
  ⟨by kernel_rfl, by kernel_rfl, by kernel_rfl, ⟨.int .u8 0, by kernel_rfl, by kernel_rfl⟩, ⟨.string, by kernel_rfl, by kernel_rfl⟩, rfl, first_str t, by rw [bytesV_length]; omega⟩

theorem put0_does (n : Nat) (h : n < 9223372036854775808) : Does E0 F_put 1 [ptr 0 0, nat n] (hp 1 [(0, bld0)]) (.tuple ⟨[]⟩) (bldH (putB n)) := by
  have hp1 := putB_pos n
  have hp2 := putB_length 8 n h
  refine Does.of (by kernel_rfl) ?_
  refine Ends.goto E0_good 1 (.op F_put 8) (by kernel_rfl) ?_
  refine Ends.call0 E0_good F_vPut [nat n] _ (vPut_does n h) rfl rfl (by kernel_rfl) (by kernel_rfl) (by kernel_rfl) ?_
  refine Ends.goto E0_good 1 (.op F_bWriteString 14) (by kernel_rfl) ?_
  refine Ends.appE E0_good T_bytes T_str (.slice none 0 0) (str (putB n)) _ (slv 1 0 (putB n).length capU) _ (by kernel_rfl)
    (append_nil (appS _ _) (by omega) (by omega)) (by kernel_rfl) (by kernel_rfl) ?_
  exact Ends.done E0_good 100 (by kernel_rfl) ⟨rfl, rfl⟩

theorem take_bytes (acc t : List UInt8) : (bytesV acc).take (acc.length * 1) ++ bytesV t = bytesV (acc ++ t) := by
  rw [Nat.mul_one, List.take_of_length_le (by rw [bytesV_length]; omega), bytesV_append]

theorem putN_does (acc : List UInt8) (n : Nat) (h : n < 9223372036854775808) (ha : acc.length < 1000000000) :
    Does E0 F_put 2 [ptr 0 0, nat n] (bldH acc) (.tuple ⟨[]⟩) (hpo 3 [(0, some (bldO 0 2 (acc ++ putB n).length)), (1, none), (2, some (byO (acc ++ putB n)))]) := by
  have hp1 := putB_pos n
  have hp2 := putB_length 8 n h
  refine Does.of (by kernel_rfl) ?_
  refine Ends.goto E0_good 1 (.op F_put 8) (by kernel_rfl) ?_
  refine Ends.call0 E0_good F_vPut [nat n] _ (vPut_does n h) rfl rfl (by kernel_rfl) (by kernel_rfl) (by kernel_rfl) ?_
  refine Ends.goto E0_good 1 (.op F_bWriteString 14) (by kernel_rfl) ?_
  refine Ends.appE E0_good T_bytes T_str (slv 1 0 acc.length capU) (str (putB n)) _ (slv 2 0 (acc.length + (putB n).length) capU) _ (by kernel_rfl)
    (append_new (b := 1) (fz := 0) (mk := false) (c := bytesV acc) (appS _ _) (by omega) (by omega) (by kernel_rfl) (Nat.zero_le _) (by rw [bytesV_length]; omega) (bytesV_one _) rfl) (by kernel_rfl) (by kernel_rfl) ?_
  refine Ends.ob 2 (.cells ((bytesV acc).take (acc.length * 1) ++ bytesV (putB n)) T_u8 0 false) (byO (acc ++ putB n)) (by kernel_rfl) (by rw [take_bytes]; rfl) ?_
  refine Ends.goto E0_good 1 (.ret F_put) (by kernel_rfl) ?_
  refine Ends.ob 0 (bldO 0 2 (acc.length + (putB n).length)) (bldO 0 2 (acc ++ putB n).length) (by kernel_rfl) (by rw [List.length_append]) ?_
  exact Ends.done E0_good 100 (by kernel_rfl) ⟨rfl, rfl⟩

/-- a text behind others -/
theorem writeN_does (acc t : List UInt8) (ha : acc.length + t.length < 1000000000) (h0 : t ≠ []) :
    Does E0 F_bWriteString 2 [ptr 0 0, str t] (bldH acc) (.tuple ⟨[nat t.length, .nilIface]⟩) (hpo 3 [(0, some (bldO 0 2 (acc ++ t).length)), (1, none), (2, some (byO (acc ++ t)))]) := by
  have hp1 : t.length ≠ 0 := fun h => h0 (List.length_eq_zero_iff.1 h)
  refine Does.of (by kernel_rfl) ?_
  refine Ends.goto E0_good 1 (.op F_bWriteString 14) (by kernel_rfl) ?_
  refine Ends.appE E0_good T_bytes T_str (slv 1 0 acc.length capU) (str t) _ (slv 2 0 (acc.length + t.length) capU) _ (by kernel_rfl)
    (append_new (b := 1) (fz := 0) (mk := false) (c := bytesV acc) (appS _ _) (by omega) hp1 (by kernel_rfl) (Nat.zero_le _) (by rw [bytesV_length]; omega) (bytesV_one _) rfl) (by kernel_rfl) (by kernel_rfl) ?_
  refine Ends.ob 2 (.cells ((bytesV acc).take (acc.length * 1) ++ bytesV t) T_u8 0 false) (byO (acc ++ t)) (by kernel_rfl) (by rw [take_bytes]; rfl) ?_
  refine Ends.goto E0_good 1 (.ret F_bWriteString) (by kernel_rfl) ?_
  refine Ends.ob 0 (bldO 0 2 (acc.length + t.length)) (bldO 0 2 (acc ++ t).length) (by kernel_rfl) (by rw [List.length_append]) ?_
  exact Ends.done E0_good 100 (by kernel_rfl) ⟨rfl, rfl⟩

/-! ### String -/
def byF (l : List UInt8) (n : Nat) : AObj := .cells (bytesV l) T_u8 n false

theorem sliceData_of {b n : Nat} {H : AHeap} (h : n ≠ 0) : eSliceData [slv b 0 n capU] H = some (.value (ptr b 0) H) := by
  have h1 : Nat.blt capU capU = false := rfl
  simp only [eSliceData, h1, cond_false, beq_zero h, Bool.not_false, cond_true]

theorem unsafe_of {b t t' : Nat} {l : List UInt8} {H : AHeap} (ht : ptrElem E0 (some t) = some T_u8) (hn : l ≠ []) (hlt : l.length < 1000000) (ho : H.obj b = some (byO l)) :
    eUnsafeString E0 [t, t'] [ptr b 0, nat l.length] H = some (.value (str l) (H.put b (some (byF l (max 0 l.length))))) := by
  obtain ⟨n, hl⟩ : ∃ n, l.length = n + 1 := ⟨l.length - 1, by cases l with | nil => exact absurd rfl hn | cons => simp⟩
  have h1 : szOf E0 T_u8 = some 1 := by kernel_rfl
  have h2 : Nat.ble n 1000000 = true := Nat.ble_eq_true_of_le (by omega)
  have h3 : Nat.beq 1 1 = true := rfl
  have h4 : Nat.beq T_u8 T_u8 = true := rfl
  have h5 : takeN (bytesV l) (n + 1) = some (bytesV l) := by rw [takeN_of _ _ (by rw [bytesV_length]; omega), List.take_of_length_le (by rw [bytesV_length]; omega)]
  rw [hl]
  unfold eUnsafeString
  simp only [ht, Option.bind_some, h2, cond_true, ho, byO, freezeStr, h1, h3, h4, Bool.and_self, h5, aBytes_of, Option.map_some, byF]

theorem bString_does (l : List UInt8) (hn : l ≠ []) (hlt : l.length < 1000000) : Does E0 F_bString 2 [ptr 0 0] (bldH l) (str l) (hp 2 [(0, bldO 0 1 l.length), (1, byF l (max 0 l.length))]) := by
  have h0 : l.length ≠ 0 := fun h => hn (List.length_eq_zero_iff.1 h)
  refine Does.of (by kernel_rfl) ?_
  refine Ends.goto E0_good 1 (.op F_bString 7) (by kernel_rfl) ?_
  refine Ends.efW E0_good (fun H => eSliceData [slv 1 0 l.length capU] H) (ptr 1 0) (fun H => H) [(8, T_bytes, ⟨0, 1, none⟩, slv 1 0 l.length capU)] (by kernel_rfl) (sliceData_of h0) (by kernel_rfl) (one_stays (by kernel_rfl) (veq_slice _ _ _ _)) (by kernel_rfl) ?_
  refine Ends.goto E0_good 0 (.op F_bString 13) (by kernel_rfl) ?_
  refine Ends.efW E0_good (fun H => eUnsafeString E0 [151, T_int] [ptr 1 0, nat l.length] H) (str l) (fun H => H.put 1 (some (byF l (max 0 l.length)))) [] (by kernel_rfl) (unsafe_of (by kernel_rfl) hn hlt (by kernel_rfl)) (by kernel_rfl) rfl (by kernel_rfl) ?_
  exact Ends.done E0_good 100 (by kernel_rfl) ⟨rfl, rfl⟩
end Go.Den.VvF
