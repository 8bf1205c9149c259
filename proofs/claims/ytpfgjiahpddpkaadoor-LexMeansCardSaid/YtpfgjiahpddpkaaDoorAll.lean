/- lex.All: a text's symbols. -/
import Derived.Test.YtpfgjiahpddpkaaDoorLexH
set_option linter.unusedVariables false
set_option linter.unusedSimpArgs false
namespace Go.Proofs.YtpfgjiahpddpkaaDoor
open Go.RowKit
def symC (y : Sym) : List Value := [.int .i64 y.kind, .string y.text, .int .i64 y.tk, .string y.tt, .string y.tx, .int .i64 y.place]
def symVs (l : List Sym) : List Value := l.flatMap symC
def OwnS (base : Nat) (w : World) (v : Value) (l : List Sym) : Prop := w.ownsRow base 49 6 v l.length (symVs l)
theorem Tryd.infoSym : (Tryd.prog.info? 49).map (fun i => (i.zero, i.size, i.bytes)) = some (some (symV noSym), 6, 72) := by kernel_rfl
theorem OwnS.moved {b base : Nat} {W W' : World} {v : Value} {l : List Sym} (h : OwnS base W v l) (hb : b < base) (hm : Moved b W W') : OwnS base W' v l := by
  refine World.ownsRow.kept h hm ?_
  cases hv : v.ownBlock with
  | none => exact .inl rfl
  | some k => refine .inr (fun e => ?_); have := own_blk h k hv; injection e; omega
theorem symC_one (y : Sym) : ∀ u ∈ symC y, u.oneCell' = true := by
  intro u hu; simp only [symC, List.mem_cons, List.not_mem_nil, or_false] at hu
  rcases hu with rfl | rfl | rfl | rfl | rfl | rfl <;> rfl
theorem cell_six_new (w : World) (y : Sym) : ∀ j u, (symC y)[j]? = some u → (w.alloc (symO y)).cell? ((⟨w.heap.size, 0, none⟩ : Addr).add j) = some u := by
  intro j u hj
  have h0 := World.alloc_heap_new w (symO y)
  obtain ⟨⟨e0, e1, e2, e3, e4, e5⟩, _⟩ := rbY h0
  match j, hj with
  | 0, hj => simp [symC] at hj; subst hj; exact e0
  | 1, hj => simp [symC] at hj; subst hj; exact e1
  | 2, hj => simp [symC] at hj; subst hj; exact e2
  | 3, hj => simp [symC] at hj; subst hj; exact e3
  | 4, hj => simp [symC] at hj; subst hj; exact e4
  | 5, hj => simp [symC] at hj; subst hj; exact e5
  | j + 6, hj => simp [symC] at hj
theorem cell_six_at (w : World) (y : Sym) (n : Nat) (hn : n = w.heap.size) : ∀ j u, (symC y)[j]? = some u → (w.alloc (.cells #[.int .i64 y.kind, .string y.text, .int .i64 y.tk, .string y.tt, .string y.tx, .int .i64 y.place] 49)).cell? ((⟨n, 0, none⟩ : Addr).add j) = some u := by
  subst hn; exact cell_six_new w y
theorem Moved.below {b : Nat} {w x y : World} (h : Below w.heap.size w x) (hm : Moved b x y) (hb : w.heap.size ≤ b) : Below w.heap.size w y :=
  { os := hm.os.trans h.os, tape := hm.tape.trans h.tape, output := hm.output.trans h.output, size := Nat.le_trans h.size hm.size, block := fun k hk => (hm.block k (Nat.lt_of_lt_of_le hk h.size) (fun e => by have h9 : k = b := Option.some.inj e; omega)).trans (h.block k hk) }
def AllPost (s : ByteArray) (w : World) (R : List Sym × Int × Int) (e : Ending) (w' : World) : Prop :=
  ∃ v, e = .returned (.tuple #[v, .int .i64 R.2.1, .int .i64 R.2.2]) ∧ OwnS w.heap.size w' v R.1 ∧ Below w.heap.size w w'
theorem symsF_step (s : ByteArray) (f i : Nat) (acc : List Sym) : symsF s (f + 1) i acc = (match nextF s i with | .no => .ok acc | .bad k => .error k | .ok y j => symsF s f j (acc ++ [y])) := rfl
def allR (s : ByteArray) : List Sym × Int × Int := match symsF s (s.size + 1) 0 [] with | .ok l => (l, 0, 0) | .error k => ([], (k : Int), 4)
set_option maxHeartbeats 1000000 in
set_option maxRecDepth 10000 in
theorem all_c (s : ByteArray) (w : World) (hm : HasMax w) (hs : s.size ≤ 2000000000) : Calls Tryd.prog 7 #[.string s] w (AllPost s w (allF s)) := by
  have hml := hm.lt
  by_cases h1 : 1048576 < s.size
  · have HA := Lib.hid (show allF s = ([], 0, 3) from if_pos h1)
    have d1 : decide ((1048576 : Int) < (s.size : Int)) = true := by simp; omega
    go_enter Tryd.func7, Tryd.ntmps7
    go_wp2
    go_ret3
    rw [HA.out]
    exact ⟨_, rfl, World.ownsRow_nil _ _ _ _, Below.refl _ w⟩
  · have hu : allF s = if endU s < s.size then (([] : List Sym), (endU s : Int), (4 : Int)) else allR s := if_neg h1
    have hle := endU_le s
    have hez : (s.extract 0 (endU s)).size = endU s := by rw [size_extract _ _ _ (by omega) (by omega)]; omega
    have d1 : decide ((1048576 : Int) < (s.size : Int)) = false := by simp; omega
    have hwl := fun W => well_c s hs W
    obtain ⟨x, hx⟩ : ∃ x, s.extract 0 (endU s) = x := ⟨_, rfl⟩
    rw [hx] at hez hwl
    have HW := Lib.hid hwl
    clear hx hwl
    by_cases h2 : endU s < s.size
    · have HA := Lib.hid (hu.trans (if_pos h2))
      clear hu
      have d2 : decide ((endU s : Int) < (s.size : Int)) = true := by simp; omega
      go_enter Tryd.func7, Tryd.ntmps7
      go_wp2_with (go_at_call 22; refine (HW.out _).mono ?_; rintro e w2 ⟨rfl, hB⟩)
      go_ret3
      rw [HA.out]
      exact ⟨_, rfl, World.ownsRow_nil _ _ _ _, hB⟩
    · have HA := Lib.hid (hu.trans (if_neg h2))
      clear hu
      have d2 : decide ((endU s : Int) < (s.size : Int)) = false := by simp; omega
      obtain ⟨i0, hi0, hz0, hz1, hz2⟩ := info_parts Tryd.infoSym
      go_enter Tryd.func7, Tryd.ntmps7
      go_wp2_with (go_at_call 22; refine (HW.out _).mono ?_; rintro e w2 ⟨rfl, hB⟩)
      go_loopg [6] (s.size + 1) (fun g v wr => ∃ (i : Nat) (acc : List Sym), Scan w2.heap.size s (i : Int) wr ∧ Moved w2.heap.size (w2.alloc (.cells #[.string s, .int .i64 0] 55)) wr ∧ OwnS (w2.heap.size + 1) wr v acc ∧ i ≤ s.size ∧ acc.length ≤ i ∧ s.size + 1 ≤ i + g ∧ Hid (symsF s g i acc = symsF s (s.size + 1) 0 []))
      case atStart =>
        have hm2 := hm.below hB
        have hl2 := hm2.lt
        exact ⟨0, [], ⟨World.alloc_heap_new w2 _, hm2.below ((Below.refl _ w2).alloc (Nat.le_refl _) _), by omega, hs⟩, Moved.refl _ _, World.ownsRow_nil _ _ _ _, by omega, by simp, by omega, Lib.hid rfl⟩
      case round =>
        obtain ⟨i, acc, hsc, hmv, hown, hi, hac, hg, HK⟩ := hrel
        obtain ⟨g, rfl⟩ : ∃ g, gk = g + 1 := ⟨gk - 1, by omega⟩
        have hst := symsF_step s g i acc
        have hsf := safely_c hsc hi
        cases hR : nextF s i with
        | no =>
          rw [hR] at hst hsf
          have HSF := Lib.hid hsf; clear hsf
          have HF := Lib.hid (HK.out.symm.trans hst); clear hst
          go_wp2_with (go_at_call 23; refine (HSF.out).mono ?_; rintro e w3 ⟨rfl, hsc3, hmv3⟩; simp only [symV])
          go_ret3
          rw [HA.out]
          unfold allR
          rw [HF.out]
          have hbs := hB.size
          refine ⟨_, rfl, own_lower (OwnS.moved (b := w2.heap.size) hown (by omega) (hmv3.alloc _)) (by omega), Moved.below (hB.alloc hB.size _) ((hmv.trans hmv3).alloc _) hbs⟩
        | bad k =>
          rw [hR] at hst hsf
          have HSF := Lib.hid hsf; clear hsf
          have HF := Lib.hid (HK.out.symm.trans hst); clear hst
          have hk0 : (0 : Int) ≤ (k : Int) := by omega
          go_wp2_with (go_at_call 23; refine (HSF.out).mono ?_; rintro e w3 ⟨rfl, hsc3, hmv3⟩; simp only [symV])
          go_ret3
          rw [HA.out]
          unfold allR
          rw [HF.out]
          have hbs := hB.size
          refine ⟨_, rfl, World.ownsRow_nil _ _ _ _, Moved.below (hB.alloc hB.size _) ((hmv.trans hmv3).alloc _) hbs⟩
        | ok y j =>
          rw [hR] at hst hsf
          have hgo := goes_next s i hi y j hR
          have HSF := Lib.hid hsf; clear hsf
          have HF := Lib.hid (HK.out.symm.trans hst); clear hst hR
          go_wp2_with (first
            | (go_at_call 23; refine (HSF.out).mono ?_; rintro e w3 ⟨rfl, hsc3, hmv3⟩; simp only [symV])
            | (at_builtin; go_loud (refine wpList_append_own _ rfl (.tmp 39) (.tmp 41) 23 rfl (w2.heap.size + 1) 49 i0 (symV noSym) 6 72 Tryd.underlying23 hi0 hz0 hz1 hz2 rfl (by decide) _ _ _ rfl (OwnS.moved (b := w2.heap.size) hown (by omega) ((hmv3.alloc (symO y)).alloc (symO y))) ⟨w3.heap.size + 1, 0, none⟩ 1 1 (symC y) rfl rfl (cell_six_at _ y _ (by simp)) (symC_one y) (by unfold maxLen; omega) (by omega) (by have h1 := hmv.size; have h2 := hmv3.size; simp at h1; simp; omega) ?_; intro v4 w4 hown4 hgrow4 _)))
          have hmd := own_blk hown
          have hl2 := hsc.max.lt
          have hls := hsc.lt
          have hmx := (hm.below hB).lt
          go_roundg g
          case measure => omega
          case rel =>
            refine ⟨j, acc ++ [y], ((hsc3.alloc _).alloc _).grown hgrow4 (fun k hk => by have := hmd k hk; omega) (fun k hk => by have := hmd k hk; omega), (((hmv.trans hmv3).alloc _).alloc _).grown hgrow4 (fun k hk => by have := hmd k hk; simp; omega), ?_, by omega, by simp; omega, by omega, Lib.hid HF.out.symm⟩
            unfold OwnS
            rw [List.length_append, show symVs (acc ++ [y]) = symVs acc ++ symC y by simp [symVs]]
            exact hown4
end Go.Proofs.YtpfgjiahpddpkaaDoor
