/- Scan at sources that are known; the walk of small. -/
import Derived.Test.YtaemahhcacolgaaW21
import Derived.Test.YtaemahhcacolgaaW16
namespace Go.Proofs.Ytaemahhcacolgaa
open Go.RowKit LX

/-- How a source is cut, computed. -/
def scanF : Nat → List UInt8 → Nat → Option (List Tok × Option Nat)
  | 0, _, _ => none
  | n + 1, l, pos =>
    let k := skipC false l
    let r := l.drop k
    if r.isEmpty then some ([⟨4, [], pos + l.length⟩], none)
    else if (tokL r).ok then (match scanF n (r.drop (tokL r).n) (pos + k + (tokL r).n) with | none => none | some (ts, e) => some (⟨(tokL r).kind, (tokL r).text, pos + k⟩ :: ts, e))
    else some ([], some (pos + k))
theorem scanF_sc : ∀ (n : Nat) (l : List UInt8) (pos : Nat) (ts : List Tok) (e : Option Nat), scanF n l pos = some (ts, e) → Sc l pos ts e
  | 0, _, _, _, _, h => by simp [scanF] at h
  | n + 1, l, pos, ts, e, h => by
    unfold scanF at h
    dsimp only at h
    split at h
    · rename_i g
      simp only [Option.some.injEq, Prod.mk.injEq] at h
      obtain ⟨rfl, rfl⟩ := h
      exact .fin l pos (by simpa using g)
    · rename_i g
      have g : l.drop (skipC false l) ≠ [] := by simpa using g
      split at h
      · rename_i g2
        split at h
        · cases h
        · rename_i us f hf
          simp only [Option.some.injEq, Prod.mk.injEq] at h
          obtain ⟨rfl, rfl⟩ := h
          exact .tok l pos _ us f g rfl g2 (scanF_sc n _ _ _ _ hf)
      · rename_i g2
        simp only [Option.some.injEq, Prod.mk.injEq] at h
        obtain ⟨rfl, rfl⟩ := h
        exact .bad l pos g (by simpa using g2)
def OkIs (ts : List Tok) (w : World) (e : Ending) (w' : World) : Prop := ∃ C cc, e = .returned (.tuple #[.slice C ts.length cc, .int .i64 0, .int .i64 0]) ∧ ToksAt w' w'.heap.size C (ts.map mt) ∧ Below w.heap.size w w'
def BadIs (p : Nat) (w : World) (e : Ending) (w' : World) : Prop := e = .returned (.tuple #[.slice none 0 0, .int .i64 2, .int .i64 p]) ∧ Below w.heap.size w w'
theorem scan_ok (s : ByteArray) (w : World) (hs : s.size ≤ 65536) {ts : List Tok} (hsc : Sc s.data.toList 0 ts none) : Calls Try.prog 10 #[.string s] w (OkIs ts w) := by
  refine (scan_any s w hs hsc).mono ?_
  rintro e w' ⟨hb, ⟨_, C, cc, rfl, hT⟩ | ⟨p, he, _⟩⟩
  · exact ⟨C, cc, rfl, hT, hb⟩
  · cases he
theorem scan_bad (s : ByteArray) (w : World) (hs : s.size ≤ 65536) {ts : List Tok} {p : Nat} (hsc : Sc s.data.toList 0 ts (some p)) : Calls Try.prog 10 #[.string s] w (BadIs p w) := by
  refine (scan_any s w hs hsc).mono ?_
  rintro e w' ⟨hb, ⟨he, _⟩ | ⟨q, he, rfl⟩⟩
  · cases he
  · obtain rfl := Option.some.inj he
    exact ⟨rfl, hb⟩
def smallT : List Tok := [⟨0, [99, 97, 112], 0⟩, ⟨1, [52, 48], 4⟩, ⟨0, [77, 76], 6⟩, ⟨3, [59], 8⟩, ⟨4, [], 16⟩]
theorem toks_new (w : World) (ts : List Tok) (cs : Array Value) (e : Nat) (h : cs.toList = rowC ts) : ToksAt (w.alloc (.cells cs e)) (w.heap.size + 1) (some ⟨w.heap.size, 0, none⟩) (ts.map mt) := fun _ => ⟨w.heap.size, 0, rfl, Nat.lt_succ_self _, fun j hj => by
  rw [World.cell?_alloc_at _ _ _ _ rfl, Nat.zero_add]
  have := rowC_get ts j (by simp at hj; omega)
  rw [← h] at this
  simpa using this⟩
theorem sc1 : Sc [99, 97, 112, 32, 52, 48, 77, 76, 59, 32, 35, 32, 102, 117, 108, 108] 0 smallT none := scanF_sc 6 _ _ _ _ (by kernel_rfl)
theorem sc2 : ∃ ts, Sc [49, 46, 53, 62, 61, 50, 46, 120] 0 ts (some 6) := ⟨[⟨1, [49, 46, 53], 0⟩, ⟨3, [62, 61], 3⟩, ⟨1, [50], 5⟩], scanF_sc 6 _ _ _ _ (by kernel_rfl)⟩
theorem sc3 : ∃ ts, Sc [97, 32, 33, 32, 98] 0 ts (some 2) := ⟨[⟨0, [97], 0⟩], scanF_sc 6 _ _ _ _ (by kernel_rfl)⟩
theorem sc4 : ∃ ts, Sc [49, 46, 50, 46, 51] 0 ts (some 3) := ⟨[⟨1, [49, 46, 50], 0⟩], scanF_sc 6 _ _ _ _ (by kernel_rfl)⟩
def TrueIs (w : World) (e : Ending) (w' : World) : Prop := e = .returned (.bool true) ∧ Below w.heap.size w w'
theorem same_small {w1 w4 : World} {C1 : Option Addr} {cc1 : Nat} (hT : ToksAt w1 w1.heap.size C1 (smallT.map mt)) (hb : Below w1.heap.size w1 w4) (cs : Array Value) (h : cs.toList = rowC smallT) :
    Calls Try.prog 12 #[.slice C1 5 cc1, .slice (some ⟨w4.heap.size, 0, none⟩) 5 5, .bool true] (w4.alloc (.cells cs 32)) (TrueIs (w4.alloc (.cells cs 32))) := by
  refine (same_any C1 (some ⟨w4.heap.size, 0, none⟩) cc1 5 (smallT.map mt) (smallT.map mt) true _ (hT.below (hb.alloc hb.size _)) (toks_new w4 smallT cs _ h) (by decide) (by decide)).mono ?_
  rintro e w' ⟨rfl, hb⟩
  exact ⟨ret_bool (sameT_yes rfl fun k s t h1 h2 => by rw [h1] at h2; rw [Option.some.inj h2]), hb⟩
def smallW : List UInt8 := [99, 97, 112, 32, 52, 48, 32, 77, 76, 32, 59]
def SmallWIs (w : World) (e : Ending) (w' : World) : Prop := e = .returned (.string ⟨#[99, 97, 112, 32, 52, 48, 32, 77, 76, 32, 59]⟩) ∧ Below w.heap.size w w'
theorem write_small {w1 w5 : World} {C1 : Option Addr} {cc1 : Nat} (hT : ToksAt w1 w1.heap.size C1 (smallT.map mt)) (hb : Below w1.heap.size w1 w5) :
    Calls Try.prog 13 #[.slice C1 5 cc1] w5 (SmallWIs w5) := by
  have e : writeM (smallT.map mt) = smallW := by kernel_rfl
  refine (write_any C1 cc1 (smallT.map mt) w5 (hT.below hb) hb.size (by decide) (by decide) (by rw [e]; decide)).mono ?_
  rintro e' w' ⟨rfl, hb⟩
  exact ⟨by rw [e]; rfl, hb⟩
set_option maxRecDepth 100000 in
set_option maxHeartbeats 4000000 in
theorem small_any (w : World) : Calls Try.prog 8 #[] w (TrueIs w) := by
  obtain ⟨t2, s2⟩ := sc2
  obtain ⟨t3, s3⟩ := sc3
  obtain ⟨t4, s4⟩ := sc4
  have K1 := Lib.hid fun wx => scan_ok ⟨#[99, 97, 112, 32, 52, 48, 77, 76, 59, 32, 35, 32, 102, 117, 108, 108]⟩ wx (by decide) sc1
  have K2 := Lib.hid fun wx => scan_bad ⟨#[49, 46, 53, 62, 61, 50, 46, 120]⟩ wx (by decide) s2
  have K3 := Lib.hid fun wx => scan_bad ⟨#[97, 32, 33, 32, 98]⟩ wx (by decide) s3
  have K4 := Lib.hid fun wx => scan_bad ⟨#[49, 46, 50, 46, 51]⟩ wx (by decide) s4
  clear s2 s3 s4
  have hlen : smallT.length = 5 := rfl
  go_enter Try.func8, Try.ntmps8
  go_wp2_with (first
    | (go_at_call 10; ((with_reducible refine (K1.out _).mono ?_); rintro e1 w1 ⟨C1, cc1, rfl, hT1, hb1⟩))
    | (go_at_call 10; ((with_reducible refine (K2.out _).mono ?_); rintro e2 w2 ⟨rfl, hb2⟩))
    | (go_at_call 10; ((with_reducible refine (K3.out _).mono ?_); rintro e3 w3 ⟨rfl, hb3⟩))
    | (go_at_call 10; ((with_reducible refine (K4.out _).mono ?_); rintro e4 w4 ⟨rfl, hb4⟩; have hb14 : Below w1.heap.size w1 w4 := hb2.trans ((hb3.trans (hb4.mono hb3.size)).mono hb2.size); have KS := Lib.hid (fun cs h => same_small (cc1 := cc1) hT1 hb14 cs h)))
    | (go_at_call 12; ((with_reducible refine (KS.out _ ?_).mono ?_); exact rfl; rintro e5 w5 ⟨rfl, hb5⟩; have hb15 : Below w1.heap.size w1 w5 := (hb14.alloc hb14.size _).trans (hb5.mono (by have := hb14.size; simp; omega)); have KW := Lib.hid (write_small (cc1 := cc1) hT1 hb15)))
    | (go_at_call 13; ((with_reducible refine KW.out.mono ?_); rintro e6 w6 ⟨rfl, hb6⟩))
    | fail)
  go_ret
  exact ⟨rfl, (hb1.trans (hb15.mono hb1.size)).trans (hb6.mono (by have := hb15.size; have := hb1.size; omega))⟩
end Go.Proofs.Ytaemahhcacolgaa
