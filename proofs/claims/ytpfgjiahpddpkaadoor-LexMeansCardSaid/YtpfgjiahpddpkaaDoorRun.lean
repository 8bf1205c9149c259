/- utf.Runes as an iterator: its contract; utf.Valid. -/
import Derived.RangeFuncNested
import Derived.RangeFuncBound
import Derived.RangeFuncCalls
import Derived.RangeFuncLeaves
import Derived.Shelf.Abstract
import Derived.WalkKit
import Derived.OwnWalkIn
import Derived.TacticsInMore
import Derived.LoopNIn
import Derived.LoopIn
import Derived.Test.YtpfgjiahpddpkaaDoorRunF
import Derived.Test.YtpfgjiahpddpkaaDoorUtf
set_option linter.unusedVariables false
set_option linter.unusedSimpArgs false
namespace Go.Proofs.YtpfgjiahpddpkaaDoor
open Go.RowKit Go.Shelf
attribute [local go_sem] Oper.semAt_some
-- these three are turned from a worked proof of the guide (a list's iterator)
theorem cell_of_box_l {W : World} {B : Nat} {v : Value} {t : TypeId} (h : W.heap[B]? = some (.cells #[v] t (0, 0))) : W.cell? ⟨B, 0, none⟩ = some v ∧ W.frozen? ⟨B, 0, none⟩ = false := by
  constructor <;> simp [World.cell?, World.frozen?, h]
theorem cell_new_l (W : World) (v : Value) (t : TypeId) : (W.alloc (.cells #[v] t)).cell? ⟨W.heap.size, 0, none⟩ = some v ∧ (W.alloc (.cells #[v] t)).frozen? ⟨W.heap.size, 0, none⟩ = false :=
  cell_of_box_l (World.alloc_heap_new W _)
theorem cell_alloc_l {W : World} {a : Addr} {v : Value} (o : Obj) (h : W.cell? a = some v) : (W.alloc o).cell? a = some v := cell_kept h (World.grownBy_alloc W o none) (fun r e => by cases e)
theorem frozen_alloc_l {W : World} {a : Addr} {v : Value} (o : Obj) (h : W.cell? a = some v) (hf : W.frozen? a = false) : (W.alloc o).frozen? a = false := (frozen_kept h (World.grownBy_alloc W o none) (fun r e => by cases e)).trans hf
/-- What a round keeps for this iterator: the box that it captured. -/
def KeepBox (B : Nat) (W W' : World) : Prop := W'.cell? ⟨B, 0, none⟩ = W.cell? ⟨B, 0, none⟩
set_option maxRecDepth 100000 in
set_option maxHeartbeats 2000000 in
theorem runes1_in (n : Nat) (hn : 1 ≤ n) (l Bs : Nat) (s : ByteArray) (hreach : s.size ≤ 140737488351232) (J Jx : List (Nat × Int) → World → Prop)
    (hY : ∀ pre x W, J pre W → pre.length < s.size → YieldAt Fence.wide (n - 1) Tryd.prog l #[.int .i64 (x.1 : Int), .int .i64 x.2] W fun e W' =>
      (e = .returned (.bool true) ∧ J (pre ++ [x]) W' ∧ KeepBox Bs W W') ∨ (e = .returned (.bool false) ∧ Jx (pre ++ [x]) W'))
    (W : World) (hBs : W.cell? ⟨Bs, 0, none⟩ = some (.string s)) (h0 : J [] W) :
    CallsIn Fence.wide n Tryd.prog 53 #[.func (.yield l) #[] #[], .pointer (some ⟨Bs, 0, none⟩)] W fun e W' => (∃ v, e = .returned v) ∧
      ((∃ ys, ys = runesL s ∧ J ys W') ∨ (∃ pre, pre <+: runesL s ∧ Jx pre W')) := by
  have h7 : Fence.wide.fn 53 := trivial
  refine callsIn_of_wp Tryd.func53 rfl h7 ?_ rfl
  simp only [Tryd.ntmps53, List.size_toArray, List.length_cons, List.length_nil, Nat.reduceAdd, Nat.reduceSub, Array.replicate_succ, Array.replicate_zero, List.push_toArray, List.append_toArray, List.nil_append, List.cons_append]
  gi_wp2
  gi_loopw [3] (fun i wr => ∃ (k f : Nat) (pre : List (Nat × Int)), k ≤ s.size ∧ i = .int .i64 k ∧ wr.cell? ⟨Bs, 0, none⟩ = some (.string s) ∧ J pre wr ∧ Hid (runesL s = pre ++ runesF s f k) ∧ s.size ≤ k + f ∧ pre.length ≤ k)
    (fun i _ => s.size - (intOf i).toNat)
  case atStart => exact ⟨0, s.size, [], Nat.zero_le _, rfl, hBs, h0, Lib.hid rfl, by omega, by simp⟩
  case round =>
    obtain ⟨k, f, pre, hk, rfl, hc, hJ, HR, hf, hp⟩ := hrel
    by_cases hlt : k < s.size
    · rcases getAt_cases s k hlt with hg | ⟨r, m, hg, h1, h2, h3, h4, h5⟩
      · have hr : runesL s = pre := by rw [HR.out, runesF_bad _ _ _ hg, List.append_nil]
        have HRS := Lib.hid hr
        have hgc := get_c (s.extract k s.size) wr (by rw [size_extract _ _ _ (by omega) (by omega)]; omega)
        rw [show getU (s.extract k s.size) = (0, 0, 4) from hg] at hgc
        simp only [tri] at hgc
        have HG := Lib.hid hgc; clear hgc hg hr HR
        gi_wp2_with (first | (refine ⟨trivial, ?_⟩; gi_at_call 54; refine (callsIn_wide.2 HG.out).mono ?_; rintro e w' ⟨rfl, rfl⟩) | (gi_at_call 54; refine (callsIn_wide.2 HG.out).mono ?_; rintro e w' ⟨rfl, rfl⟩))
        refine ⟨fun _ h => (by cases h), ?_⟩
        gi_wp2
        refine bodyPost_ret (results_none rfl _ _ _) rfl ?_
        exact ⟨⟨_, rfl⟩, .inl ⟨_, rfl, by rw [HRS.out]; exact hJ⟩⟩
      · obtain ⟨f, rfl⟩ : ∃ f', f = f' + 1 := ⟨f - 1, by omega⟩
        have hr : runesL s = (pre ++ [(k, r)]) ++ runesF s f (k + m) := by rw [HR.out, runesF_step _ _ _ _ _ hlt hg, List.append_assoc]; rfl
        have HRS := Lib.hid hr
        have hgc := get_c (s.extract k s.size) wr (by rw [size_extract _ _ _ (by omega) (by omega)]; omega)
        rw [show getU (s.extract k s.size) = (r, (m : Int), 0) from hg] at hgc
        simp only [tri] at hgc
        have HG := Lib.hid hgc; clear hgc hg hr HR
        obtain ⟨fn, tmps, assign, body, hy, hR⟩ := hY pre (k, r) wr hJ (by omega)
        dsimp only at hy
        gi_wp2_with (first | (refine ⟨trivial, ?_⟩; gi_at_call 54; refine (callsIn_wide.2 HG.out).mono ?_; rintro e w' ⟨rfl, rfl⟩) | (gi_at_call 54; refine (callsIn_wide.2 HG.out).mono ?_; rintro e w' ⟨rfl, rfl⟩))
        refine hR.mono ?_
        rintro e W3 (⟨rfl, hJ3, hk3⟩ | ⟨rfl, hJx3⟩)
        · have hc3 : W3.cell? ⟨Bs, 0, none⟩ = some (.string s) := Eq.trans hk3 hc
          gi_wp2
          go_roundw
          case rel => exact ⟨k + m, f, pre ++ [(k, r)], h3, by go_num, hc3, hJ3, HRS, by omega, by simp; omega⟩
          case measure => simp [intOf]; omega
        · gi_wp2
          refine bodyPost_ret (results_none rfl _ _ _) rfl ?_
          exact ⟨⟨_, rfl⟩, .inr ⟨_, ⟨_, HRS.out.symm⟩, hJx3⟩⟩
    · obtain rfl : k = s.size := by omega
      have hr : runesL s = pre := by rw [HR.out, runesF_out _ _ _ (by omega), List.append_nil]
      have HRS := Lib.hid hr; clear hr HR
      gi_wp2
      go_end0
      exact ⟨⟨_, rfl⟩, .inl ⟨_, rfl, by rw [HRS.out]; exact hJ⟩⟩
theorem keepBox_t {B : Nat} {X Y Z : World} (h : KeepBox B X Y) (k : KeepBox B Y Z) : KeepBox B X Z := Eq.trans k h
theorem keepBox_b {B : Nat} {w : World} (hB : B < w.heap.size) (W : World) (l : Nat) (o o' : Obj) (hl : w.heap.size ≤ l) (h : W.heap[l]? = some o) (_ : o.isCells = false) (_ : o.isWalk = false) : KeepBox B W (W.putObj l o') :=
  World.cell?_of_block (w := W) (by exact World.putObj_heap_other (by simp; omega))
/-- The iterator that Runes(s) hands back: all runes, or a beginning of them. -/
theorem runes_stops (n : Nat) (hn : 1 ≤ n) (Bs : Nat) (s : ByteArray) (hreach : s.size ≤ 140737488351232) (w : World) (hBs : Bs < w.heap.size) (hc : w.cell? ⟨Bs, 0, none⟩ = some (.string s)) :
    SeqStopsK Fence.wide n Tryd.prog 53 #[.pointer (some ⟨Bs, 0, none⟩)] (fun x : Nat × Int => #[Value.int .i64 (x.1 : Int), Value.int .i64 x.2]) (KeepBox Bs) (fun ys => ys = runesL s) (fun pre => pre <+: runesL s) s.size w := fun l J Jx W hW _ _ hY h0 =>
  runes1_in n hn l Bs s hreach J Jx hY W ((hW.cell (p := ⟨Bs, 0, none⟩) hBs).trans hc) h0
theorem runes_in (s : ByteArray) (w : World) : Calls Tryd.prog 39 #[.string s] w fun e w' => e = .returned (.func (.func 53) #[] #[.pointer (some ⟨w.heap.size, 0, none⟩)]) ∧ w.alloc (.cells #[.string s] 9) = w' := by
  go_enter Tryd.func39, Tryd.ntmps39
  go_wp2
  go_ret
  exact ⟨rfl, rfl⟩
end Go.Proofs.YtpfgjiahpddpkaaDoor
