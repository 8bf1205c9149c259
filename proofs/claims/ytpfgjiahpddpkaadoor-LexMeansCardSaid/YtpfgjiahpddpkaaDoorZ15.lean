/- The walk of rhizomelaw04.same at equal lists. Appending symbols to a row of the call's own, in a guarded statement too. Symbols moved, one by one; their places. Plain laws; same at slices. -/
import Derived.Test.YtpfgjiahpddpkaaDoorZ12
import Derived.Test.YtpfgjiahpddpkaaDoorKnown
import Derived.Test.YtpfgjiahpddpkaaDoorZ13
set_option linter.unusedVariables false
set_option linter.unusedSimpArgs false
namespace Go.Proofs.YtpfgjiahpddpkaaDoor
open Go.RowKit
/-- The slice value v holds the symbols L. -/
def SlS (w : World) (v : Value) (L : List Sym) : Prop := (L = [] ∧ ∃ p c, v = .slice p 0 c) ∨ (∃ g cap, v = .slice (some ⟨g, 0, none⟩) L.length cap ∧ At w g 0 L)
theorem SlS.below {w w' : World} {v : Value} {L : List Sym} (h : SlS w v L) (hb : Below w.heap.size w w') : SlS w' v L :=
  h.elim .inl (fun ⟨g, cap, e, h2⟩ => .inr ⟨g, cap, e, h2.below hb⟩)
theorem OwnS.sl {base : Nat} {w : World} {v : Value} {L : List Sym} (h : OwnS base w v L) : SlS w v L := by
  by_cases hl : L = []
  · subst hl
    obtain ⟨_, h2⟩ := h
    rcases h2 with ⟨h2, _⟩ | ⟨g, cap, cur, hv, _⟩
    · exact .inl ⟨rfl, _, _, h2⟩
    · exact .inl ⟨rfl, _, _, hv⟩
  · obtain ⟨g, cap, hv, _, hg, hc⟩ := OwnS.cells h hl
    exact .inr ⟨g, cap, hv, hg, fun j u hj => by rw [Nat.zero_add]; exact hc j u hj⟩
theorem symVs_len (L : List Sym) : (symVs L).length = 6 * L.length := by
  induction L with
  | nil => rfl
  | cons y r ih => rw [show symVs (y :: r) = symC y ++ symVs r from rfl, List.length_append, ih, List.length_cons]; show 6 + _ = _; omega
theorem symVs_at : ∀ (L : List Sym) (i : Nat) (y : Sym) (j : Nat) (u : Value), L[i]? = some y → (symC y)[j]? = some u → (symVs L)[i * 6 + j]? = some u := by
  intro L
  induction L with
  | nil => intro i y j u h; simp at h
  | cons z r ih =>
    intro i y j u h hu
    have hj : j < 6 := (List.getElem?_eq_some_iff.1 hu).1
    cases i with
    | zero =>
      obtain rfl : z = y := by simpa using h
      rw [show symVs (z :: r) = symC z ++ symVs r from rfl, List.getElem?_append_left (by show 0 * 6 + j < 6; omega), Nat.zero_mul, Nat.zero_add]; exact hu
    | succ i =>
      rw [List.getElem?_cons_succ] at h
      rw [show symVs (z :: r) = symC z ++ symVs r from rfl, List.getElem?_append_right (by show 6 ≤ (i + 1) * 6 + j; omega)]
      rw [show (i + 1) * 6 + j - (symC z).length = i * 6 + j from by show (i + 1) * 6 + j - 6 = _; omega]
      exact ih i y j u h hu
theorem At.nth {w : World} {g : Nat} {L : List Sym} (h : At w g 0 L) (i : Nat) (y : Sym) (hy : L[i]? = some y) : w.cell? ⟨g, i * 6, none⟩ = some (.int .i64 y.kind) ∧ w.cell? ⟨g, i * 6 + 1, none⟩ = some (.string y.text) ∧ w.cell? ⟨g, i * 6 + 2, none⟩ = some (.int .i64 y.tk) ∧ w.cell? ⟨g, i * 6 + 3, none⟩ = some (.string y.tt) ∧ w.cell? ⟨g, i * 6 + 4, none⟩ = some (.string y.tx) ∧ w.cell? ⟨g, i * 6 + 5, none⟩ = some (.int .i64 y.place) := by
  have hh : ∀ j u, (symC y)[j]? = some u → w.cell? ⟨g, i * 6 + j, none⟩ = some u := fun j u hu => by
    have := h.2 (i * 6 + j) u (symVs_at L i y j u hy hu)
    rw [Nat.zero_add] at this; exact this
  exact ⟨hh 0 _ rfl, hh 1 _ rfl, hh 2 _ rfl, hh 3 _ rfl, hh 4 _ rfl, hh 5 _ rfl⟩
set_option maxHeartbeats 2000000 in
theorem same_full (L : List Sym) (ga gb ca cb : Nat) (w : World) (ha : At w ga 0 L) (hb : At w gb 0 L) (hl : L.length ≤ 2000000000) :
    Calls Tryd.prog 21 #[.slice (some ⟨ga, 0, none⟩) L.length ca, .slice (some ⟨gb, 0, none⟩) L.length cb] w fun e w' => e = .returned (.bool true) ∧ Below w.heap.size w w' := by
  have HA := Lib.hid ha
  have HB := Lib.hid hb
  have HLL := Lib.hid hl
  clear ha hb hl
  go_enter Tryd.func21, Tryd.ntmps21
  go_wp2
  go_loopg [5] (L.length + 1) (fun g v wr => ∃ i : Nat, i ≤ L.length ∧ L.length + 1 ≤ i + g ∧ v = .int .i64 i ∧ ∃ n, wr = w.drewN n)
  case atStart => exact ⟨0, by omega, by omega, rfl, 0, rfl⟩
  case round =>
    obtain ⟨i, hi, hg, rfl, n, rfl⟩ := hrel
    obtain ⟨G, rfl⟩ : ∃ G, gk = G + 1 := ⟨gk - 1, by omega⟩
    have hll := HLL.out
    by_cases hlt : i < L.length
    · obtain ⟨y, hy⟩ : ∃ y, L[i]? = some y := ⟨L[i], List.getElem?_eq_getElem hlt⟩
      obtain ⟨a0, a1, a2, a3, a4, a5⟩ := HA.out.nth i y hy
      obtain ⟨b0, b1, b2, b3, b4, b5⟩ := HB.out.nth i y hy
      clear hy
      go_wp2_with fail
      go_quiet (fail)
      go_wp2
      go_roundg G
      case measure => omega
      case rel => exact ⟨i + 1, by omega, by omega, by go_num, _, rfl⟩
    · obtain rfl : i = L.length := by omega
      go_wp2
      go_ret
      exact ⟨rfl, below_drewN (Below.refl _ w) n⟩
end Go.Proofs.YtpfgjiahpddpkaaDoor
set_option linter.unusedVariables false
set_option linter.unusedSimpArgs false
namespace Go.Proofs.YtpfgjiahpddpkaaDoor
open Go.RowKit
/-- The slice value v holds the symbols L, wherever. -/
def SlX (w : World) (v : Value) (L : List Sym) : Prop := (L = [] ∧ v = .slice none 0 0) ∨ (∃ ad c, v = .slice (some ad) L.length c ∧ ∀ j u, (symVs L)[j]? = some u → w.cell? (ad.add j) = some u)
theorem OwnS.slx {base : Nat} {w : World} {v : Value} {L : List Sym} (h : OwnS base w v L) : SlX w v L := by
  have h0 := h
  obtain ⟨hx, h2⟩ := h
  rcases h2 with ⟨h2, h3⟩ | ⟨g, cap, cur, hv, _⟩
  · exact .inl ⟨List.length_eq_zero_iff.1 h3, h2⟩
  · exact .inr ⟨⟨g, 0, none⟩, cap, hv, World.ownsRow.cells h0 (by rw [hv]; rfl)⟩
theorem SlX.below {w w' : World} {v : Value} {L : List Sym} (h : SlX w v L) (hb : Below w.heap.size w w') : SlX w' v L := by
  rcases h with h | ⟨ad, c, hv, hc⟩
  · exact .inl h
  · refine .inr ⟨ad, c, hv, fun j u hj => ?_⟩
    have h1 := hc j u hj
    have h2 := World.block_lt_of_cell? w _ h1
    exact (hb.cell h2).trans h1
theorem symVs_cell (L : List Sym) : ∀ u ∈ symVs L, u.oneCell' = true := by
  intro u hu
  unfold symVs at hu
  obtain ⟨y, _, hy⟩ := List.mem_flatMap.1 hu
  exact symC_one y u hy
theorem wpList_append_syms {w : World} {ops : Array Oper} {rest : List Oper} {o : Oper} {a : Act} {Q : Exit → Act → World → Prop} (s x : Operand)
    (ho : o.op = .call { callee := .builtin .append, args := #[s, x], argTypes := #[23, 23] })
    (hw : Region.wanted o (yielded ops a.tmps) = true)
    (base : Nat) (vs vx : Value) (L0 L : List Sym) (hs : a.eval s = vs) (hx : a.eval x = vx) (hown : OwnS base w vs L0) (hsl : SlX w vx L)
    (hb : L0.length + L.length ≤ 1000000) (hbase : base ≤ w.heap.size)
    (h : ∀ v' w', OwnS base w' v' (L0 ++ L) → Below base w w' → wpList Tryd.prog ops Q rest (a.put o.dst v') w') : wpList Tryd.prog ops Q (o :: rest) a w := by
  obtain ⟨i0, hi0, hz0, hz1, hz2⟩ := info_parts Tryd.infoSym
  refine wpList_step fun K hK => ?_
  rw [if_pos hw]
  have hbel : ∀ {w' : World}, w.grownBy w' vs.ownBlock → Below base w w' := fun {w'} hg =>
    ⟨hg.os, hg.tape, hg.output, hg.size, fun k hk => hg.block k (by omega) (fun e => by have := own_blk hown k e.symm; omega)⟩
  rcases hsl with ⟨rfl, hv⟩ | ⟨ad, c, hv, hc⟩
  · subst hv
    have hrun := run_append_owned_none (P := Tryd.prog) (w := w) base 23 o.type 49 i0 6 Tryd.underlying23 hi0 vs L0.length (symVs L0) hown
    have hh := h vs w (by rw [List.append_nil]; exact hown) (Below.refl _ _)
    unfold Oper.wp
    simp [execOp, ho, resolve, invoke, builtin, hs, hx, hrun, Result.andThen]
    exact hK _ _ hh
  · subst hv
    refine wp_append_own w s x 23 ho base 49 i0 (symV noSym) 6 72 Tryd.underlying23 hi0 hz0 hz1 hz2 rfl (by decide) vs L0.length (symVs L0) hs hown ad L.length c (symVs L) hx (by rw [symVs_len, Nat.mul_comm]) hc (symVs_cell L) (by unfold maxLen; omega) (by omega) hbase ?_
    intro v' w' h1 h2 _
    refine hK _ _ (h v' w' ?_ (hbel h2))
    unfold OwnS
    rw [List.length_append, show symVs (L0 ++ L) = symVs L0 ++ symVs L by simp [symVs]]
    exact h1
end Go.Proofs.YtpfgjiahpddpkaaDoor
set_option linter.unusedVariables false
namespace Go.Proofs.YtpfgjiahpddpkaaDoor
open Go.RowKit
theorem symVs_set (p : Int) : ∀ (L : List Sym) (i : Nat) (y : Sym), L[i]? = some y → (symVs L).set (i * 6 + 5) (.int .i64 p) = symVs (L.set i { y with place := p }) := by
  intro L
  induction L with
  | nil => intro i y h; simp at h
  | cons z r ih =>
    intro i y h
    cases i with
    | zero =>
      obtain rfl : z = y := by simpa using h
      rfl
    | succ i =>
      rw [List.getElem?_cons_succ] at h
      rw [List.set_cons_succ, show symVs (z :: r) = symC z ++ symVs r from rfl, show symVs (z :: r.set i { y with place := p }) = symC z ++ symVs (r.set i { y with place := p }) from rfl, ← ih i y h]
      rw [List.set_append_right _ _ (by show 6 ≤ (i + 1) * 6 + 5; omega)]
      rw [show (i + 1) * 6 + 5 - (symC z).length = i * 6 + 5 from by show (i + 1) * 6 + 5 - 6 = _; omega]
def shl (d i : Nat) (L : List Sym) : List Sym := (L.take i).map (shY d) ++ L.drop i
theorem shl_zero (d : Nat) (L : List Sym) : shl d 0 L = L := by simp [shl]
theorem shl_all (d : Nat) (L : List Sym) : shl d L.length L = L.map (shY d) := by simp [shl]
theorem shl_len (d i : Nat) (L : List Sym) : (shl d i L).length = L.length := by simp [shl]; omega
theorem shl_at (d i : Nat) (L : List Sym) (h : i < L.length) : (shl d i L)[i]? = L[i]? := by
  unfold shl
  rw [List.getElem?_append_right (by simp; omega)]
  simp
  rw [Nat.min_eq_left (by omega)]; simp
theorem shl_step (d i : Nat) (L : List Sym) (y : Sym) (h : L[i]? = some y) : (shl d i L).set i (shY d y) = shl d (i+1) L := by
  have hi : i < L.length := (List.getElem?_eq_some_iff.1 h).1
  have hy : L[i] = y := (List.getElem?_eq_some_iff.1 h).2
  unfold shl
  rw [List.set_append_right _ _ (by simp; omega), List.take_succ_eq_append_getElem hi, List.map_append, List.drop_eq_getElem_cons hi, hy]
  simp [Nat.min_eq_left (Nat.le_of_lt hi)]
/-- Where the symbols stand. -/
theorem try_place (s : ByteArray) (i : Nat) : ∀ (L : List (ByteArray → Nat → LR)) y j, tryAll s i L = .ok y j → y.place = (i : Int) := by
  intro L
  induction L with
  | nil => intro y j h; cases h
  | cons f L ih =>
    intro y j h
    rw [tryAll_cons] at h
    cases hf : f s i with
    | no => rw [hf] at h; exact ih y j h
    | bad k => rw [hf] at h; cases h
    | ok z m => rw [hf] at h; cases h; rfl
theorem next_place (s : ByteArray) (i : Nat) (hi : i ≤ s.size) (y : Sym) (j : Nat) (h : nextF s i = .ok y j) : 0 ≤ y.place ∧ y.place ≤ s.size := by
  have hg := skipU_ge s i hi
  unfold nextF at h
  split at h
  · have := try_place s _ _ y j h; omega
  · cases h
theorem syms_place (s : ByteArray) : ∀ f i l, i ≤ s.size → symsF s f i [] = .ok l → ∀ z ∈ l, 0 ≤ z.place ∧ z.place ≤ s.size := by
  intro f
  induction f with
  | zero => intro i l hi h z hz; simp [symsF] at h; subst h; simp at hz
  | succ f ih =>
    intro i l hi h z hz
    have hg := goes_next s i hi
    rw [symsF_step] at h
    cases hR : nextF s i with
    | no => rw [hR] at h; simp only at h; injection h with h; subst h; simp at hz
    | bad k => rw [hR] at h; cases h
    | ok y j =>
      rw [hR] at h
      simp only at h
      have hj := hg y j hR
      rw [symsF_acc] at h
      cases hx : symsF s f j [] with
      | error k => rw [hx] at h; cases h
      | ok l2 =>
        rw [hx] at h
        obtain rfl : y :: l2 = l := by injection h
        rcases List.mem_cons.1 hz with rfl | hz
        · exact next_place s i hi _ j hR
        · exact ih j l2 (by omega) hx z hz
theorem syms_len (s : ByteArray) : ∀ f i l, i ≤ s.size → symsF s f i [] = .ok l → l.length ≤ s.size - i := by
  intro f
  induction f with
  | zero => intro i l hi h; simp [symsF] at h; subst h; simp
  | succ f ih =>
    intro i l hi h
    have hg := goes_next s i hi
    rw [symsF_step] at h
    cases hR : nextF s i with
    | no => rw [hR] at h; simp only at h; injection h with h; subst h; simp
    | bad k => rw [hR] at h; cases h
    | ok y j =>
      rw [hR] at h
      simp only at h
      have hj := hg y j hR
      rw [symsF_acc] at h
      cases hx : symsF s f j [] with
      | error k => rw [hx] at h; cases h
      | ok l2 =>
        rw [hx] at h
        obtain rfl : y :: l2 = l := by injection h
        have := ih j l2 (by omega) hx
        rw [List.length_cons]; omega
theorem all_places (s : ByteArray) (l : List Sym) (h : allF s = (l, 0, 0)) : l.length ≤ s.size ∧ ∀ z ∈ l, 0 ≤ z.place ∧ z.place ≤ s.size := by
  obtain ⟨_, _, h3⟩ := all_ok s l h
  exact ⟨by have := syms_len s _ 0 l (by omega) h3; omega, syms_place s _ 0 l (by omega) h3⟩
theorem cat_all (a b : ByteArray) (la lb : List Sym) (ha : allF a = (la, 0, 0)) (hb : allF b = (lb, 0, 0)) (hz : a.size + 1 + b.size ≤ 1048576) : allF ((a ++ ⟨#[10]⟩) ++ b) = (la ++ lb.map (shY (a.size + 1)), 0, 0) := by
  have z1 : (a ++ ⟨#[10]⟩).size = a.size + 1 := by rw [ByteArray.size_append]; rfl
  have z2 : ((a ++ ⟨#[10]⟩) ++ b).size = a.size + 1 + b.size := by rw [ByteArray.size_append, z1]
  have hh : Head a ((a ++ ⟨#[10]⟩) ++ b) := ⟨by omega, fun k hk => by rw [bt_app1 _ _ _ (by omega), bt_app1 _ _ _ hk], by
    rw [bt_app1 _ _ _ (by omega)]
    have := bt_app2 a ⟨#[10]⟩ 0
    rw [Nat.add_zero] at this
    rw [this]; decide⟩
  have ht : Tail b ((a ++ ⟨#[10]⟩) ++ b) (a.size + 1) := ⟨by omega, fun k => by
    have := bt_app2 (a ++ ⟨#[10]⟩) b k
    rw [z1] at this; exact this⟩
  have := all_cat hh ht (by omega) la ha
  rw [this, hb]; rfl
theorem same_none (pa pb : Option Addr) (ca cb : Nat) (w : World) : Calls Tryd.prog 21 #[.slice pa 0 ca, .slice pb 0 cb] w fun e w' => e = .returned (.bool true) ∧ Below w.heap.size w w' := by
  go_enter Tryd.func21, Tryd.ntmps21
  go_wp2
  go_loopg [5] 1 (fun g v wr => v = .int .i64 0 ∧ w = wr)
  case atStart => exact ⟨rfl, rfl⟩
  case round =>
    obtain ⟨rfl, rfl⟩ := hrel
    go_wp2
    go_ret
    exact ⟨rfl, Below.refl _ w⟩
theorem same_sl (L : List Sym) (va vb : Value) (w : World) (ha : SlS w va L) (hb : SlS w vb L) (hl : L.length ≤ 2000000000) : Calls Tryd.prog 21 #[va, vb] w fun e w' => e = .returned (.bool true) ∧ Below w.heap.size w w' := by
  rcases ha with ⟨rfl, p, c, rfl⟩ | ⟨g, c, rfl, h⟩
  · rcases hb with ⟨_, q, d, rfl⟩ | ⟨g2, d, rfl, _⟩
    · exact same_none p q c d w
    · exact same_none p _ c d w
  · rcases hb with ⟨rfl, q, d, rfl⟩ | ⟨g2, d, rfl, h2⟩
    · exact same_none _ q c d w
    · exact same_full L g g2 c d w h h2 hl
end Go.Proofs.YtpfgjiahpddpkaaDoor
