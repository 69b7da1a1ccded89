/- small answers true. (Printed by gen_small.py.) -/
import Derived.Test.YtfohojkclfofmaaH1
set_option linter.unusedSimpArgs false
set_option linter.unusedVariables false
namespace Go.Proofs.Ytfohojkclfofmaa
open Go.RowKit DK
attribute [local go_sem] alloc_drewN setCell_drewN shape_drewN
def BoolIs (b : Bool) (w : World) (e : Ending) (w' : World) : Prop := e = .returned (.bool b) ∧ Below w.heap.size w w'

def sm1 : St := (DK.append St.zero 1 [104, 101, 108, 108, 111]).2
def sm2 : St := (DK.flush sm1 1).2
def sm3 : St := (DK.append sm2 1 [121, 111, 117]).2
def sm4 : St := DK.crash sm3 [1]
def sm5 : St := DK.start sm4
def sm6 : St := DK.lose sm5 1
def sm7 : St := (DK.flush sm6 1).2
def sm8 : St := (DK.append sm7 2 [120]).2
def sm9 : St := (DK.turn sm8 1 2).2
def sm10 : St := (DK.flush sm9 2).2
def sm11 : St := (DK.turn sm10 1 2).2
def sm12 : St := (DK.append sm11 3 [100, 101, 102, 103]).2
def sm13 : St := (DK.append sm12 3 [104, 105]).2
def sm14 : St := DK.crash sm13 [1, 2]
def sm15 : St := DK.start sm14
theorem sm1_v : (DK.append St.zero 1 [104, 101, 108, 108, 111]).1 = 0 := by decide +kernel
theorem sm1_s : (DK.append St.zero 1 [104, 101, 108, 108, 111]).2 = sm1 := rfl
theorem sm2_v : (DK.flush sm1 1).1 = 0 := by decide +kernel
theorem sm2_s : (DK.flush sm1 1).2 = sm2 := rfl
theorem sm3_v : (DK.append sm2 1 [121, 111, 117]).1 = 0 := by decide +kernel
theorem sm3_s : (DK.append sm2 1 [121, 111, 117]).2 = sm3 := rfl
theorem sm4_s : DK.crash sm3 [1] = sm4 := rfl
theorem smr1 : DK.read sm4 1 = ([], 9) := by decide +kernel
theorem smr2 : (sm4).down = true := by decide +kernel
theorem sm5_s : DK.start sm4 = sm5 := rfl
theorem smr3 : DK.read sm5 1 = ([104, 101, 108, 108, 111, 121], 0) := by decide +kernel
theorem sm6_s : DK.lose sm5 1 = sm6 := rfl
theorem sm7_v : (DK.flush sm6 1).1 = 13 := by decide +kernel
theorem sm7_s : (DK.flush sm6 1).2 = sm7 := rfl
theorem sm8_v : (DK.append sm7 2 [120]).1 = 0 := by decide +kernel
theorem sm8_s : (DK.append sm7 2 [120]).2 = sm8 := rfl
theorem sm9_v : (DK.turn sm8 1 2).1 = 10 := by decide +kernel
theorem sm9_s : (DK.turn sm8 1 2).2 = sm9 := rfl
theorem sm10_v : (DK.flush sm9 2).1 = 0 := by decide +kernel
theorem sm10_s : (DK.flush sm9 2).2 = sm10 := rfl
theorem sm11_v : (DK.turn sm10 1 2).1 = 0 := by decide +kernel
theorem sm11_s : (DK.turn sm10 1 2).2 = sm11 := rfl
theorem smr4 : DK.read sm11 1 = ([120], 0) := by decide +kernel
theorem sm12_v : (DK.append sm11 3 [100, 101, 102, 103]).1 = 0 := by decide +kernel
theorem sm12_s : (DK.append sm11 3 [100, 101, 102, 103]).2 = sm12 := rfl
theorem sm13_v : (DK.append sm12 3 [104, 105]).1 = 0 := by decide +kernel
theorem sm13_s : (DK.append sm12 3 [104, 105]).2 = sm13 := rfl
theorem sm14_s : DK.crash sm13 [1, 2] = sm14 := rfl
theorem sm15_s : DK.start sm14 = sm15 := rfl
theorem smr5 : DK.read sm15 3 = ([100, 0, 0, 0, 104, 105], 0) := by decide +kernel
theorem sm_size : DK.size sm15 2 = 0 := by decide +kernel
theorem sm_app : (DK.append sm15 8 []).1 = 1 := by decide +kernel
def smA : St := (DK.append sm15 8 []).2
theorem smA_s : (DK.append sm15 8 []).2 = smA := rfl
def smC : St := (DK.cut smA 1 2).2
theorem smC_s : (DK.cut smA 1 2).2 = smC := rfl
theorem sm_cut : (DK.cut smA 1 2).1 = 1 := by decide +kernel
set_option maxRecDepth 100000 in
set_option maxHeartbeats 4000000 in
theorem small_any (w : World) : Calls Try.prog 7 #[] w (BoolIs true w) := by
  go_enter Try.func7, Try.ntmps7
  go_wp2_with fail
  go_at_call 8
  refine (Has.new w (Below.refl _ _)).mono ?_
  rintro e w1 ⟨b, rfl, h, -, -⟩
  unfold dp
  go_wp2_with fail
  go_at_call 9
  refine (h.append 1 [104, 101, 108, 108, 111] (by decide) (by omega) sm1_v sm1_s).mono ?_
  clear h
  rintro e1 w1 ⟨rfl, h⟩
  go_wp2_with fail
  go_at_call 10
  refine (h.flush 1 (by omega) sm2_v sm2_s).mono ?_
  clear h
  rintro e2 w2 ⟨rfl, h⟩
  go_wp2_with fail
  go_at_call 9
  refine (h.append 1 [121, 111, 117] (by decide) (by omega) sm3_v sm3_s).mono ?_
  clear h
  rintro e3 w3 ⟨rfl, h⟩
  go_wp2_with fail
  go_at_call 12
  refine (h.crashNew (keep := [1]) (by decide) 1 3 (by decide) (by omega) sm4_s).mono ?_
  clear h
  rintro e4 w4 ⟨rfl, h⟩
  go_wp2_with fail
  go_at_call 14
  refine (h.read 1 smr1).mono ?_
  rintro f1 x1 ⟨rfl, rfl⟩
  go_wp2_with fail
  go_at_call 17
  refine (h.down smr2).mono ?_
  rintro f2 x2 ⟨rfl, rfl⟩
  go_wp2_with fail
  go_at_call 13
  refine (h.start sm5_s).mono ?_
  clear h
  rintro e5 w5 ⟨rfl, h⟩
  go_wp2_with fail
  go_at_call 14
  refine (h.read 1 smr3).mono ?_
  rintro f3 x3 ⟨rfl, rfl⟩
  go_wp2_with fail
  go_at_call 23
  refine (h.lose 1 (by decide) sm6_s).mono ?_
  clear h
  rintro e6 w6 ⟨rfl, h⟩
  go_wp2_with fail
  go_at_call 10
  refine (h.flush 1 (by omega) sm7_v sm7_s).mono ?_
  clear h
  rintro e7 w7 ⟨rfl, h⟩
  go_wp2_with fail
  go_at_call 9
  refine (h.append 2 [120] (by decide) (by omega) sm8_v sm8_s).mono ?_
  clear h
  rintro e8 w8 ⟨rfl, h⟩
  go_wp2_with fail
  go_at_call 11
  refine (h.turn 1 2 (by omega) sm9_v sm9_s).mono ?_
  clear h
  rintro e9 w9 ⟨rfl, h⟩
  go_wp2_with fail
  go_at_call 10
  refine (h.flush 2 (by omega) sm10_v sm10_s).mono ?_
  clear h
  rintro e10 w10 ⟨rfl, h⟩
  go_wp2_with fail
  go_at_call 11
  refine (h.turn 1 2 (by omega) sm11_v sm11_s).mono ?_
  clear h
  rintro e11 w11 ⟨rfl, h⟩
  go_wp2_with fail
  go_at_call 14
  refine (h.read 1 smr4).mono ?_
  rintro f4 x4 ⟨rfl, rfl⟩
  go_wp2_with fail
  go_at_call 9
  refine (h.append 3 [100, 101, 102, 103] (by decide) (by omega) sm12_v sm12_s).mono ?_
  clear h
  rintro e12 w12 ⟨rfl, h⟩
  go_wp2_with fail
  go_at_call 9
  refine (h.append 3 [104, 105] (by decide) (by omega) sm13_v sm13_s).mono ?_
  clear h
  rintro e13 w13 ⟨rfl, h⟩
  go_wp2_with fail
  go_at_call 12
  refine (h.crashNew (keep := [1, 2]) (by decide) 2 3 (by decide) (by omega) sm14_s).mono ?_
  clear h
  rintro e14 w14 ⟨rfl, h⟩
  go_wp2_with fail
  go_at_call 13
  refine (h.start sm15_s).mono ?_
  clear h
  rintro e15 w15 ⟨rfl, h⟩
  go_wp2_with fail
  go_at_call 14
  refine (h.read 3 smr5).mono ?_
  rintro f5 x5 ⟨rfl, rfl⟩
  simp only [bs]
  go_wp2_with (first | (go_at_call 15; refine (h.size 2 sm_size).mono ?_; rintro f90 x90 ⟨rfl, rfl⟩) | (go_at_call 9; refine (h.append 8 [] (by decide) (by omega) sm_app smA_s).mono ?_; clear h; rintro f91 x91 ⟨rfl, h⟩) | (go_at_call 24; refine (h.cut 1 2 (by omega) sm_cut smC_s).mono ?_; clear h; rintro f92 x92 ⟨rfl, h⟩) | fail)
  go_ret
  exact ⟨rfl, h.below⟩
end Go.Proofs.Ytfohojkclfofmaa
