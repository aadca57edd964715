/- Functions of the program that the laws reach: a plain function each, and that the call comes to its answer if the plain function has one. Printed by a program. -/
import Derived.Test.YtdnkjgmncfhejaaT
import Derived.Test.YtdnkjgmncfhejaaM0
namespace Go.Proofs.Ytdnkjgmncfhejaa
open Eng
set_option linter.unusedVariables false

/-! ### (impl.Frame).isPlace -/
noncomputable def impl_Frame_isPlace (f0 : GFrame) (step1 : Int) (track2 : Int) : Option (Bool) := (impl_within step1 0 (w64 ((w64 f0.fSteps) - 1))).bind fun t_1 => (if t_1 = true then (impl_size_Hammer f0.fHammers).bind fun t_2 => (impl_within track2 0 (w64 (t_2 - 1))).bind fun t_3 => some t_3 else some false)
set_option maxRecDepth 100000 in
theorem impl_Frame_isPlace.calls (f0 : GFrame) (step1 : Int) (track2 : Int) (w : World) (r : Bool) (f0_fHammers_a : Option Addr) (f0_fHammers_an : Nat) (f0_fHammers_c : Nat) (f0_fHammers_h : Rw w f0_fHammers_a 2 encGHammer f0.fHammers) (f0_fHammers_hn : f0.fHammers.length = f0_fHammers_an) (h : impl_Frame_isPlace f0 step1 track2 = some r) :
    Calls Try.prog 86 #[(.agg #[(.int .i16 f0.fSteps), (.slice f0_fHammers_a f0_fHammers_an f0_fHammers_c)]), (.int .i64 step1), (.int .i64 track2)] w fun e w' => ∃ v, e = .returned v ∧ (v = (.bool r) ∧ Mem w [] [] w') := by
  subst f0_fHammers_hn
  rw [impl_Frame_isPlace] at h
  refine enter (args := [(.agg #[(.int .i16 f0.fSteps), (.slice f0_fHammers_a f0.fHammers.length f0_fHammers_c)]), (.int .i64 step1), (.int .i64 track2)]) Try.func86 rfl Try.ntmps86 (by kernel_rfl) (L := []) (W := []) (Mem.start w) ?_
  refine jc_seq ?_
  refine jc_region ?_
  refine toO (by kernel_rfl) (p_a 0 [0] (by kernel_rfl) (fun b => by kernel_rfl) (fun b_1 => jkO ?_))
  refine jo_f [(0, 0)] (by kernel_rfl) ?_
  refine jo_end (by kernel_rfl) ?_
  refine jx_then ?_
  refine jc_seq ?_
  refine jc_region ?_
  refine jo_f [(0, 0), (0, 0), (0, 0), (0, 0), (0, 0)] (by kernel_rfl) ?_
  obtain ⟨t_1, ht_2, h⟩ := bd h
  refine toO (by kernel_rfl) (p_call 0 109 #[(.int .i64 step1), (.int .i64 0), (.int .i64 (w64 ((w64 f0.fSteps) - 1)))] (by kernel_rfl) (by kernel_rfl) (fun w hm => impl_within.calls step1 0 (w64 ((w64 f0.fSteps) - 1)) w _ ht_2) ?_)
  rintro w v w' hm ⟨rfl, hm'⟩
  refine ⟨_, hm.app hm', jkO ?_⟩
  clear hm hm'
  refine jo_f [(0, 0), (0, 1), (0, 1), (0, 1)] (by kernel_rfl) ?_
  refine jo_split 13 t_1 (by kernel_rfl) (fun hc_3 => ?_) (fun hc_3 => ?_)
  · replace h := ifT hc_3 h
    obtain ⟨t_2, ht_4, h⟩ := bd h
    refine toO (by kernel_rfl) (p_call 2 134 #[(.slice f0_fHammers_a f0.fHammers.length f0_fHammers_c)] (by kernel_rfl) (by kernel_rfl) (fun w hm => impl_size_Hammer.calls f0.fHammers w _ f0_fHammers_a f0.fHammers.length f0_fHammers_c (hm.exRow f0_fHammers_h List.not_mem_nil) rfl ht_4) ?_)
    rintro w v w' hm ⟨rfl, hm'⟩
    refine ⟨_, hm.app hm', jkO ?_⟩
    clear hm hm'
    refine jo_f [(0, 2)] (by kernel_rfl) ?_
    obtain ⟨t_3, ht_5, h⟩ := bd h
    refine toO (by kernel_rfl) (p_call 2 109 #[(.int .i64 track2), (.int .i64 0), (.int .i64 (w64 (t_2 - 1)))] (by kernel_rfl) (by kernel_rfl) (fun w hm => impl_within.calls track2 0 (w64 (t_2 - 1)) w _ ht_5) ?_)
    rintro w v w' hm ⟨rfl, hm'⟩
    refine ⟨_, hm.app hm', jkO ?_⟩
    clear hm hm'
    refine jo_f [(0, 4), (0, 0)] (by kernel_rfl) ?_
    refine jo_end (by kernel_rfl) ?_
    refine jx_then ?_
    refine jc_ret ?_
    obtain rfl := Option.some.inj h
    exact jx_ret [] (.bool t_3) [] rfl (by kernel_rfl) (by kernel_rfl) (fun w hm => ⟨rfl, hm.pick [] (by kernel_rfl) (by kernel_rfl)⟩)
  · replace h := ifF hc_3 h
    refine jo_f [(0, 3), (0, 3), (0, 3), (0, 5), (0, 0)] (by kernel_rfl) ?_
    refine jo_end (by kernel_rfl) ?_
    refine jx_then ?_
    refine jc_ret ?_
    obtain rfl := Option.some.inj h
    exact jx_ret [] (.bool false) [] rfl (by kernel_rfl) (by kernel_rfl) (fun w hm => ⟨rfl, hm.pick [] (by kernel_rfl) (by kernel_rfl)⟩)
end Go.Proofs.Ytdnkjgmncfhejaa
