/- The walk of lex.resource without prefixes. The walk of lex.Read without prefixes. -/
import Derived.BigRegion
import Derived.RegionTactic
import Derived.Test.YtpfgjiahpddpkaaDoorKn
import Derived.Test.YtpfgjiahpddpkaaDoorLex13
import Derived.Test.YtpfgjiahpddpkaaDoorKinds
set_option linter.unusedVariables false
set_option linter.unusedSimpArgs false
namespace Go.Proofs.YtpfgjiahpddpkaaDoor
open Go.RowKit
def termO (k : Int) (t x : ByteArray) : Obj := .cells #[.int .i64 k, .string t, .string x] 40 (0, 0)
theorem termO_cells {r : Nat} {w : World} {k : Int} {t x : ByteArray} (h : w.heap[r]? = some (termO k t x)) :
    (w.cell? ⟨r, 0, none⟩ = some (.int .i64 k) ∧ w.cell? ⟨r, 1, none⟩ = some (.string t) ∧ w.cell? ⟨r, 2, none⟩ = some (.string x)) ∧
    (w.frozen? ⟨r, 0, none⟩ = false ∧ w.frozen? ⟨r, 1, none⟩ = false ∧ w.frozen? ⟨r, 2, none⟩ = false) := by
  simp [World.cell?, World.frozen?, h, termO]
theorem ret_term {fn : Func} {r i : Nat} {w : World} {tmps : Array Value} {c : Value} (k : Int) (t x : ByteArray) (h : fn.results = #[.cell i 40, .tmp 5]) (h2 : tmps.getD i undef = .pointer (some ⟨r, 0, none⟩)) (h3 : tmps.getD 5 undef = c)
    (hb : w.heap[r]? = some (termO k t x)) : (results fn tmps).run Tryd.prog w = .ok (.tuple #[termV k t x, c]) w := by
  obtain ⟨⟨e0, e1, e2⟩, _⟩ := termO_cells hb
  rw [Array.getD_eq_getD_getElem?] at h2 h3
  simp only [results, h, termV]
  go_simp
theorem res_sets {r : Nat} {w : World} {k0 : Int} {t0 x0 : ByteArray} (k : Int) (t x : ByteArray) (h : w.heap[r]? = some (termO k0 t0 x0)) :
    (((w.setCell ⟨r, 0, none⟩ (.int .i64 k)).setCell ⟨r, 1, none⟩ (.string t)).setCell ⟨r, 2, none⟩ (.string x)).heap[r]? = some (termO k t x) := by
  rw [heap_set (heap_set (heap_set h))]; rfl
set_option maxHeartbeats 2000000 in
theorem res_iri (y : Sym) (h1 : y.kind = 1) (w : World) (p : Value) : Calls Tryd.prog 37 #[symV y, p] w fun e w' => e = .returned (.tuple #[termV y.tk y.tt y.tx, .bool true]) ∧ Below w.heap.size w w' := by
  obtain ⟨k, tx, tk, tt, te, pl⟩ := y
  simp only at h1
  subst h1
  unfold symV
  have h9 := World.alloc_heap_new (w.alloc (.cells #[.int .i64 1, .string tx, .int .i64 tk, .string tt, .string te, .int .i64 pl] 49)) (termO tk tt te)
  rw [World.size_alloc] at h9
  have hB : Below w.heap.size w ((w.alloc (.cells #[.int .i64 1, .string tx, .int .i64 tk, .string tt, .string te, .int .i64 pl] 49)).alloc (termO tk tt te)) := ((Below.refl _ w).alloc (Nat.le_refl _) _).alloc (by simp) _
  have H9 := Lib.hid h9
  have HB := Lib.hid hB
  clear h9 hB
  go_enter Tryd.func37, Tryd.ntmps37
  go_wp2
  exact bodyPost_ret (ret_term (i := 4) tk tt te rfl rfl rfl H9.out) rfl ⟨rfl, HB.out⟩
def colon : ByteArray := ⟨#[58]⟩
theorem cut_c (s : ByteArray) (hs : s.size ≤ 2000000000) (w : World) (hm : HasMax w) : Calls Tryd.prog 51 #[.string s, .string ⟨#[58]⟩] w fun e w' => e = .returned (.tuple #[.string ⟨(Lib.cut s.data.toList [58]).1.toArray⟩, .string ⟨(Lib.cut s.data.toList [58]).2.1.toArray⟩, .bool (Lib.cut s.data.toList [58]).2.2]) ∧ ∃ n, w' = w.drewN n := by
  obtain ⟨m, hm⟩ := hm
  exact Tryd.strings_Cut s ⟨#[58]⟩ m w (by omega) hm
theorem cut_len (s : ByteArray) : (⟨(Lib.cut s.data.toList [58]).2.1.toArray⟩ : ByteArray).size ≤ s.size := by
  have e : (⟨(Lib.cut s.data.toList [58]).2.1.toArray⟩ : ByteArray).size = (Lib.cut s.data.toList [58]).2.1.length := by simp [ByteArray.size]
  rw [e]
  have hs : s.data.toList.length = s.size := by rw [← Go.Lib.size_eq]
  unfold Lib.cut
  split
  · simp
  · simp
def ResNo (w : World) (n : Nat) (e : Ending) (w' : World) : Prop := ∃ r : ByteArray, r.size ≤ n ∧ e = .returned (.tuple #[termV 1 r ⟨#[]⟩, .bool false]) ∧ Below w.heap.size w w'
theorem look_nil (W : World) (s : ByteArray) : (Instr.lookup 72 (.map none) (.string s) true).run Tryd.prog W = .ok (.tuple #[.string ⟨#[]⟩, .bool false]) W := by kernel_rfl
set_option maxHeartbeats 2000000 in
theorem res_no (y : Sym) (h1 : y.kind ≠ 1) (hs : y.text.size ≤ 2000000000) (w : World) (hm : HasMax w) : Calls Tryd.prog 37 #[symV y, .map none] w (ResNo w y.text.size) := by
  have hln := look_nil
  obtain ⟨k, tx, tk, tt, te, pl⟩ := y
  simp only at h1 hs
  have b1 : (k == 1) = false := by simp [h1]
  unfold symV
  clear h1
  have hcut := fun W h => cut_c tx hs W h
  obtain ⟨c1, hc1⟩ : ∃ c, (⟨(Lib.cut tx.data.toList [58]).1.toArray⟩ : ByteArray) = c := ⟨_, rfl⟩
  obtain ⟨c2, hc2⟩ : ∃ c, (⟨(Lib.cut tx.data.toList [58]).2.1.toArray⟩ : ByteArray) = c := ⟨_, rfl⟩
  have hcz : c2.size ≤ tx.size := by
    rw [← hc2]; exact cut_len tx
  rw [hc1, hc2] at hcut
  have HC := Lib.hid hcut
  clear hcut hc1 hc2
  have h9 := World.alloc_heap_new (w.alloc (.cells #[.int .i64 k, .string tx, .int .i64 tk, .string tt, .string te, .int .i64 pl] 49)) (.cells #[.int .i64 0, .string ⟨#[]⟩, .string ⟨#[]⟩] 40)
  rw [World.size_alloc] at h9
  have hB : Below w.heap.size w ((w.alloc (.cells #[.int .i64 k, .string tx, .int .i64 tk, .string tt, .string te, .int .i64 pl] 49)).alloc (.cells #[.int .i64 0, .string ⟨#[]⟩, .string ⟨#[]⟩] 40)) := ((Below.refl _ w).alloc (Nat.le_refl _) _).alloc (by simp) _
  have HM2 := Lib.hid (hm.below hB)
  have h9n : ∀ n, (((w.alloc (.cells #[.int .i64 k, .string tx, .int .i64 tk, .string tt, .string te, .int .i64 pl] 49)).alloc (.cells #[.int .i64 0, .string ⟨#[]⟩, .string ⟨#[]⟩] 40)).drewN n).heap[w.heap.size + 1]? = some (termO 0 ⟨#[]⟩ ⟨#[]⟩) := fun n => h9
  have h8 : ∀ n, (((w.alloc (.cells #[.int .i64 k, .string tx, .int .i64 tk, .string tt, .string te, .int .i64 pl] 49)).alloc (.cells #[.int .i64 0, .string ⟨#[]⟩, .string ⟨#[]⟩] 40)).drewN n).heap[w.heap.size]? = some (symO ⟨k, tx, tk, tt, te, pl⟩) := fun n => alloc_blk (World.alloc_heap_new w _)
  have H8 := Lib.hid h8
  clear h8
  have H9 := Lib.hid h9n
  have HB := Lib.hid hB
  clear h9 h9n hB
  go_enter Tryd.func37, Tryd.ntmps37
  go_upto_region 5 with (go_at_call 51; refine (HC.out _ HM2.out).mono ?_; rintro e w1 ⟨rfl, n1, rfl⟩)
  go_cut [11] (fun v wx => v = .pointer (some ⟨w.heap.size + 2, 0, none⟩) ∧ wx.heap[w.heap.size]? = some (symO ⟨k, tx, tk, tt, te, pl⟩) ∧ wx.heap[w.heap.size + 1]? = some (termO 0 ⟨#[]⟩ ⟨#[]⟩) ∧ wx.heap[w.heap.size + 2]? = some (termO 1 (⟨#[]⟩ ++ c2) ⟨#[]⟩) ∧ w.heap.size + 3 ≤ wx.heap.size ∧ Below w.heap.size w wx)
  case first =>
    go_wp2_with fail
    go_meet
    have q0 := H8.out n1
    have q1 := H9.out n1
    have hz : ((w.alloc (.cells #[.int .i64 k, .string tx, .int .i64 tk, .string tt, .string te, .int .i64 pl] 49)).alloc (.cells #[.int .i64 0, .string ⟨#[]⟩, .string ⟨#[]⟩] 40)).heap.size = w.heap.size + 2 := by simp
    have hq : (((w.alloc (.cells #[.int .i64 k, .string tx, .int .i64 tk, .string tt, .string te, .int .i64 pl] 49)).alloc (.cells #[.int .i64 0, .string ⟨#[]⟩, .string ⟨#[]⟩] 40)).drewN n1).heap.size = w.heap.size + 2 := hz
    have q2 := World.alloc_heap_new (((w.alloc (.cells #[.int .i64 k, .string tx, .int .i64 tk, .string tt, .string te, .int .i64 pl] 49)).alloc (.cells #[.int .i64 0, .string ⟨#[]⟩, .string ⟨#[]⟩] 40)).drewN n1) (termO 1 (⟨#[]⟩ ++ c2) ⟨#[]⟩)
    rw [hq] at q2
    exact ⟨rfl, alloc_blk q0, alloc_blk q1, q2, by simp [hq], (below_drewN HB.out n1).alloc (by rw [hq]; omega) _⟩
  case rest =>
    obtain ⟨rfl, g0, g1, g2, hz, hB⟩ := hcut
    obtain ⟨⟨a0, a1, a2, a3, a4, a5⟩, _⟩ := rbY g0
    obtain ⟨⟨e0, e1, e2⟩, f0, f1, f2⟩ := termO_cells g1
    obtain ⟨⟨d0, d1, d2⟩, _⟩ := termO_cells g2
    have HG := Lib.hid g1
    have HB2 := Lib.hid hB
    clear g0 g1 g2 hB
    go_wp2_with fail
    cases b7 : (k == 7) with
    | true =>
      go_region
      all_goals
        go_wp2
        have hfin := res_sets 1 (⟨#[]⟩ ++ c2) ⟨#[]⟩ HG.out
        refine bodyPost_ret (ret_term (i := 4) 1 (⟨#[]⟩ ++ c2) ⟨#[]⟩ rfl rfl rfl (by rw [drew_heap]; exact hfin)) rfl ⟨⟨#[]⟩ ++ c2, ?_, rfl, ?_⟩
        · rw [ByteArray.size_append, show (⟨#[]⟩ : ByteArray).size = 0 from rfl, Nat.zero_add]; exact hcz
        · exact (((HB2.out.setCell (by simp) _).setCell (by simp) _).setCell (by simp) _).drew
    | false =>
      go_region
      all_goals
        go_wp2
        have hfin := res_sets 1 (⟨#[]⟩ ++ c2) ⟨#[]⟩ HG.out
        refine bodyPost_ret (ret_term (i := 4) 1 (⟨#[]⟩ ++ c2) ⟨#[]⟩ rfl rfl rfl (by rw [drew_heap]; exact hfin)) rfl ⟨⟨#[]⟩ ++ c2, ?_, rfl, ?_⟩
        · rw [ByteArray.size_append, show (⟨#[]⟩ : ByteArray).size = 0 from rfl, Nat.zero_add]; exact hcz
        · exact (((HB2.out.setCell (by simp) _).setCell (by simp) _).setCell (by simp) _).drew
end Go.Proofs.YtpfgjiahpddpkaaDoor
set_option linter.unusedVariables false
set_option linter.unusedSimpArgs false
namespace Go.Proofs.YtpfgjiahpddpkaaDoor
open Go.RowKit
def strT (y : Sym) : List Sym → (Int × ByteArray × ByteArray) × Nat
  | [] => ((3, y.text, ⟨#[]⟩), 1)
  | [z] => if z.kind = 4 then ((4, y.text, z.text), 2) else ((3, y.text, ⟨#[]⟩), 1)
  | z :: u :: _ => if z.kind = 4 then ((4, y.text, z.text), 2)
      else if (z.kind == 8 && z.text.toList == [94, 94]) = true ∧ u.kind = 1 then (if (u.tt.toList == xsdL) = true then ((3, y.text, ⟨#[]⟩), 3) else ((5, y.text, u.tt), 3))
      else ((3, y.text, ⟨#[]⟩), 1)
def langT (r : List Sym) : Int × Int × ByteArray := match r with
  | [] => (1, 3, ⟨#[]⟩)
  | z :: _ => if z.kind = 4 then (2, 4, z.text) else (1, 3, ⟨#[]⟩)
def rawT (r : List Sym) : Int × Int × ByteArray := match r with
  | z :: u :: _ => if (z.kind == 8 && z.text.toList == [94, 94]) = true ∧ u.kind = 1 then (3, 5, u.tt) else langT (z :: u :: [])
  | r => langT r
/-- lex.Read without prefixes: the term, how many symbols. -/
def readF : List Sym → Option ((Int × ByteArray × ByteArray) × Nat)
  | [] => none
  | y :: r => if y.kind = 2 ∨ y.kind = 1 then some ((y.tk, y.tt, y.tx), 1)
      else if y.kind = 3 then (if mayT (strT y r).1.1 (strT y r).1.2.1 (strT y r).1.2.2 then some (strT y r) else none)
      else none
def readV : Option ((Int × ByteArray × ByteArray) × Nat) → Value
  | none => .tuple #[termV 0 ⟨#[]⟩ ⟨#[]⟩, .int .i64 0, .int .i64 4]
  | some x => .tuple #[termV x.1.1 x.1.2.1 x.1.2.2, .int .i64 x.2, .int .i64 0]
/-- The symbols L lie in block g from cell off on. -/
def At (w : World) (g off : Nat) (L : List Sym) : Prop := g < w.heap.size ∧ ∀ j u, (symVs L)[j]? = some u → w.cell? ⟨g, off + j, none⟩ = some u
theorem At.below {w w' : World} {g off : Nat} {L : List Sym} (h : At w g off L) (hb : Below w.heap.size w w') : At w' g off L :=
  ⟨Nat.lt_of_lt_of_le h.1 hb.size, fun j u hj => ((bcell hb).1 _ _ h.1).trans (h.2 j u hj)⟩
theorem At.first {w : World} {g off : Nat} {y : Sym} {r : List Sym} (h : At w g off (y :: r)) : w.cell? ⟨g, off, none⟩ = some (.int .i64 y.kind) ∧ w.cell? ⟨g, off + 1, none⟩ = some (.string y.text) ∧ w.cell? ⟨g, off + 2, none⟩ = some (.int .i64 y.tk) ∧ w.cell? ⟨g, off + 3, none⟩ = some (.string y.tt) ∧ w.cell? ⟨g, off + 4, none⟩ = some (.string y.tx) ∧ w.cell? ⟨g, off + 5, none⟩ = some (.int .i64 y.place) :=
  ⟨h.2 0 _ rfl, h.2 1 _ rfl, h.2 2 _ rfl, h.2 3 _ rfl, h.2 4 _ rfl, h.2 5 _ rfl⟩
theorem At.rest {w : World} {g off : Nat} {y : Sym} {r : List Sym} (h : At w g off (y :: r)) : At w g (off + 6) r := by
  refine ⟨h.1, fun j u hj => ?_⟩
  have := h.2 (6 + j) u (by
    rw [show symVs (y :: r) = symC y ++ symVs r from rfl, List.getElem?_append_right (by show 6 ≤ 6 + j; omega)]
    rw [show 6 + j - (symC y).length = j from by show 6 + j - 6 = j; omega]; exact hj)
  rw [show off + 6 + j = off + (6 + j) by omega]; exact this
def ResAny (y : Sym) (w : World) (e : Ending) (w' : World) : Prop :=
  ∃ (k : Int) (t x : ByteArray), e = .returned (.tuple #[termV k t x, .bool (y.kind == 1)]) ∧ (y.kind = 1 → k = y.tk ∧ t = y.tt ∧ x = y.tx) ∧ Below w.heap.size w w'
theorem res_any (y : Sym) (hs : y.text.size ≤ 2000000000) (w : World) (hm : HasMax w) : Calls Tryd.prog 37 #[symV y, .map none] w (ResAny y w) := by
  by_cases h1 : y.kind = 1
  · refine (res_iri y h1 w _).mono ?_
    rintro e w' ⟨rfl, hB⟩
    exact ⟨_, _, _, by rw [h1]; rfl, fun _ => ⟨rfl, rfl, rfl⟩, hB⟩
  · refine (res_no y h1 hs w hm).mono ?_
    rintro e w' ⟨r, _, rfl, hB⟩
    exact ⟨_, _, _, by rw [show (y.kind == 1) = false by simp [h1]], fun h => absurd h h1, hB⟩
theorem ret_read {fn : Func} {r : Nat} {w : World} {tmps : Array Value} {a c : Value} (k : Int) (t x : ByteArray) (h : fn.results = #[.cell 4 40, .tmp 5, .tmp 6]) (h2 : tmps.getD 4 undef = .pointer (some ⟨r, 0, none⟩)) (h3 : tmps.getD 5 undef = a) (h4 : tmps.getD 6 undef = c)
    (hb : w.heap[r]? = some (termO k t x)) : (results fn tmps).run Tryd.prog w = .ok (.tuple #[termV k t x, a, c]) w := by
  obtain ⟨⟨e0, e1, e2⟩, _⟩ := termO_cells hb
  rw [Array.getD_eq_getD_getElem?] at h2 h3 h4
  simp only [results, h, termV]
  go_simp
set_option maxHeartbeats 2000000 in
theorem read_empty (p : Option Addr) (c : Nat) (q : Value) (w : World) : Calls Tryd.prog 20 #[.slice p 0 c, q] w fun e w' => e = .returned (readV (readF [])) ∧ Below w.heap.size w w' := by
  have h9 := World.alloc_heap_new w (termO 0 ⟨#[]⟩ ⟨#[]⟩)
  have H9 := Lib.hid h9; clear h9
  go_enter Tryd.func20, Tryd.ntmps20
  go_wp2
  exact bodyPost_ret (ret_read 0 ⟨#[]⟩ ⟨#[]⟩ rfl rfl rfl rfl H9.out) rfl ⟨rfl, (Below.refl _ w).alloc (Nat.le_refl _) _⟩
set_option maxHeartbeats 4000000 in
set_option maxRecDepth 100000 in
theorem read_c (y : Sym) (hk3 : y.kind ≠ 3) (r : List Sym) (g off cap : Nat) (w : World) (hm : HasMax w) (hL : At w g off (y :: r)) (hsz : ∀ z ∈ y :: r, z.text.size ≤ 1000000000 ∧ z.tt.size ≤ 1000000000) (hc : (y :: r).length ≤ 2000000000) :
    Calls Tryd.prog 20 #[.slice (some ⟨g, off, none⟩) (y :: r).length cap, .map none] w fun e w' => e = .returned (readV (readF (y :: r))) ∧ Below w.heap.size w w' := by
  have hgl := hL.1
  have hB1 : Below w.heap.size w (w.alloc (.cells #[.int .i64 0, .string ⟨#[]⟩, .string ⟨#[]⟩] 40)) := (Below.refl _ w).alloc (Nat.le_refl _) _
  have hm1 := hm.below hB1
  have hL1 := hL.below hB1
  have hys := (hsz y (by simp)).1
  have hrc := res_any y (by omega) _ hm1
  obtain ⟨a0, a1, a2, a3, a4, a5⟩ := hL1.first
  have H1 := Lib.hid hL1
  have HR := Lib.hid hrc
  have HM1 := Lib.hid hm1
  have HSZ := Lib.hid hsz
  have HL := Lib.hid hL
  have HB1 := Lib.hid hB1
  have hlen : (((y :: r).length : Nat) : Int) = (r.length : Int) + 1 := by simp
  have d0 : ((((y :: r).length : Nat) : Int) == 0) = false := by rw [hlen]; simp; omega
  have hr0 : 0 < (y :: r).length := by simp
  clear hL1 hrc hm1 hsz hL hB1 hm hlen
  generalize hn : (y :: r).length = n at *
  have HN := Lib.hid hn
  have HC := Lib.hid hc
  clear hn hc hys
  obtain ⟨k, tx, tk, tt, te, pl⟩ := y
  simp only [symV] at HR
  simp only at a0 a1 a2 a3 a4 a5 hk3
  go_enter Tryd.func20, Tryd.ntmps20
  go_upto_region 3 with fail
  go_cut [7, 8] (fun v b wx => ∃ (q : Nat) (k' : Int) (t' x' : ByteArray), v = .pointer (some ⟨q, 0, none⟩) ∧ b = .bool (k == 1) ∧ w.heap.size < q ∧ wx.heap[q]? = some (termO k' t' x') ∧ wx.heap[w.heap.size]? = some (termO 0 ⟨#[]⟩ ⟨#[]⟩) ∧ (k = 1 → k' = tk ∧ t' = tt ∧ x' = te) ∧ Below w.heap.size w wx)
  case first =>
    go_wp2_with (go_at_call 37; refine HR.out.mono ?_; rintro e w2 ⟨k', t', x', rfl, hk, hB2⟩; simp only [termV])
    go_meet
    have hzz := hB2.size
    rw [World.size_alloc] at hzz
    have hold : w2.heap[w.heap.size]? = some (termO 0 ⟨#[]⟩ ⟨#[]⟩) := (hB2.block w.heap.size (by rw [World.size_alloc]; omega)).trans (World.alloc_heap_new w _)
    exact ⟨w2.heap.size, k', t', x', rfl, rfl, by omega, World.alloc_heap_new w2 _, alloc_blk hold, hk, (HB1.out.trans (hB2.mono HB1.out.size)).alloc (by omega) _⟩
  case rest =>
    obtain ⟨q, k', t', x', rfl, rfl, hq, hq1, hq0, hk, hB⟩ := hcut
    have hL2 := HL.out.below hB
    obtain ⟨c0, c1, c2, c3, c4, c5⟩ := hL2.first
    obtain ⟨⟨e0, e1, e2⟩, f0, f1, f2⟩ := termO_cells hq0
    obtain ⟨⟨g0, g1, g2⟩, i0, i1, i2⟩ := termO_cells hq1
    simp only at c0 c1 c2 c3 c4 c5
    have lq := (Array.getElem?_eq_some_iff.1 hq1).1
    have HQ0 := Lib.hid hq0
    have HQ1 := Lib.hid hq1
    have HB2 := Lib.hid hB
    have HL2 := Lib.hid hL2
    have hne : ¬ w.heap.size = q := by omega
    have hne2 : ¬ q = w.heap.size := by omega
    have hgq : ¬ g = q := by omega
    clear hq0 hq1 hB hL2 a0 a1 a2 a3 a4 a5
    by_cases k2 : k = 2
    · subst k2
      have hrf : readF (⟨2, tx, tk, tt, te, pl⟩ :: r) = some ((tk, tt, te), 1) := rfl
      have HF := Lib.hid hrf; clear hrf hk
      go_wp2
      have hfin := res_sets tk tt te (set_ne (o := 2) (v := .string te) (set_ne (o := 1) (v := .string tt) (set_ne (o := 0) (v := .int .i64 tk) HQ0.out hne) hne) hne)
      exact bodyPost_ret (ret_read tk tt te rfl rfl rfl rfl hfin) rfl ⟨by rw [HF.out]; rfl, ((((((HB2.out.setCell (p := ⟨q, 0, none⟩) (by simp; omega) _).setCell (p := ⟨q, 1, none⟩) (by simp; omega) _).setCell (p := ⟨q, 2, none⟩) (by simp; omega) _).setCell (p := ⟨w.heap.size, 0, none⟩) (by simp) _).setCell (p := ⟨w.heap.size, 1, none⟩) (by simp) _).setCell (p := ⟨w.heap.size, 2, none⟩) (by simp) _)⟩
    · have b2 : (k == 2) = false := by simp [k2]
      by_cases k1 : k = 1
      · obtain ⟨rfl, rfl, rfl⟩ := hk k1
        subst k1
        have hrf : readF (⟨1, tx, k', t', x', pl⟩ :: r) = some ((k', t', x'), 1) := rfl
        have HF := Lib.hid hrf; clear hrf hk k2
        go_wp2
        have hfin := res_sets k' t' x' HQ0.out
        exact bodyPost_ret (ret_read k' t' x' rfl rfl rfl rfl hfin) rfl ⟨by rw [HF.out]; rfl, ((HB2.out.setCell (p := ⟨w.heap.size, 0, none⟩) (by simp) _).setCell (p := ⟨w.heap.size, 1, none⟩) (by simp) _).setCell (p := ⟨w.heap.size, 2, none⟩) (by simp) _⟩
      · have b1 : (k == 1) = false := by simp [k1]
        have k3 := hk3
        have b3 : (k == 3) = false := by simp [k3]
        have hrf : readF (⟨k, tx, tk, tt, te, pl⟩ :: r) = none := by
          simp only [readF]; rw [if_neg (fun h => h.elim k2 k1), if_neg k3]
        have HF := Lib.hid hrf; clear hrf hk k1 k2 k3
        go_wp2
        have hfin := res_sets 0 ⟨#[]⟩ ⟨#[]⟩ HQ0.out
        exact bodyPost_ret (ret_read 0 ⟨#[]⟩ ⟨#[]⟩ rfl rfl rfl rfl hfin) rfl ⟨by rw [HF.out]; rfl, ((HB2.out.setCell (p := ⟨w.heap.size, 0, none⟩) (by simp) _).setCell (p := ⟨w.heap.size, 1, none⟩) (by simp) _).setCell (p := ⟨w.heap.size, 2, none⟩) (by simp) _⟩
end Go.Proofs.YtpfgjiahpddpkaaDoor
