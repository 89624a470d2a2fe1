/-
  The reference's boot records: put, get.
-/
import Derived.Test.YtppbjbblklmglaaBootDecode2
import Derived.Test.YtppbjbblklmglaaBootRefCheck
import Derived.Test.YtppbjbblklmglaaNumRef
namespace Go.Proofs.Ytppbjbblklmglaa
open Go.RowKit

set_option maxRecDepth 100000 in
set_option maxHeartbeats 400000 in
theorem put_is (w : World) (base : Nat) (ao : Option Addr) (n c : Nat) (bs : List UInt8) (v m : Nat) (hb : BufB w base ao n c bs) (h1 : 1 ≤ m) (h2 : m ≤ 8) (hv : v < 256 ^ m) (hv8 : v < 18446744073709551616) (hn : n ≤ 1000000) (hbase : base ≤ w.heap.size) :
    Calls Try.prog 47 #[.slice ao n c, .int .u64 v, .int .i64 m] w fun e w' => ∃ ao' c', e = .returned (.slice ao' (n + m) c') ∧ AppB w base ao (n + m) (bs ++ le v m) ao' c' w' := by
  have hle := le_length v m
  have hF := RFixed_is w v m h1 h2 hv hv8
  have HF := Lib.hid hF; clear hF
  have Hb := Lib.hid hb; clear hb
  go_enter Try.func47, Try.ntmps47
  go_wp2_with fail
  refine HF.out.mono ?_
  rintro e w1 ⟨xo, xc, rfl, hxo, hxm⟩
  rw [hle] at hxo
  simp only [hle]
  have hbx := Hb.out.mods hxm (by simp)
  have hsz := hxm.size
  obtain ⟨ao2, c2, w5, hrun, hap⟩ := run_app_buf hbx (SlB.of_own hxo) h1 (by omega) (by omega) 28
  have Hrun := Lib.hid hrun
  have Hap := Lib.hid hap
  clear hrun hap hbx hxo
  go_wp2_with (at_builtin; refine wpl_app_run rfl (.tmp 15) (.tmp 16) 28 rfl rfl rfl Hrun.out ?_)
  go_ret
  exact ⟨ao2, c2, rfl, Hap.out.from hxm⟩

set_option maxRecDepth 100000 in
set_option maxHeartbeats 400000 in
theorem get_is (w : World) (ao : Option Addr) (n c : Nat) (bs : List UInt8) (lo m : Nat) (hs : SlB w ao n c bs) (h1 : 1 ≤ m) (h2 : m ≤ 8) (h3 : lo + m ≤ n) (hn : n ≤ 1000000000) (hsm : unle ((bs.drop lo).take m) < 9223372036854775808) :
    Calls Try.prog 53 #[.slice ao n c, .int .i64 lo, .int .i64 m] w fun e w' => e = .returned (.int .i64 (unle ((bs.drop lo).take m) : Nat)) ∧ w = w' := by
  have hl := hs.len
  have hsl := run_cut_low (P := Try.prog) underB sizeB ao n c lo (by omega)
  have hs1 := hs.cut lo n (by omega) (Nat.le_refl _)
  rw [List.take_of_length_le (l := bs) (i := n) (by omega)] at hs1
  have hU := RUnfix_is w (cutAt ao c lo) (n - lo) (c - lo) m _ hs1 h1 h2 (by omega)
  generalize unle ((bs.drop lo).take m) = v at *
  have HU := Lib.hid hU; clear hU hs1
  go_enter Try.func53, Try.ntmps53
  go_wp2_with fail
  refine HU.out.mono ?_
  rintro e w1 ⟨rfl, rfl⟩
  go_wp2_with fail
  go_ret
  exact ⟨rfl, rfl⟩
end Go.Proofs.Ytppbjbblklmglaa
