/- The statement of LexMeans: a term's text is read as it; two texts with a line's end between have the symbols of both, each at its place. No condition but the listed variables of Go's library, which the card ties. -/
import Derived.Test.YtpfgjiahpddpkaaDoorCards
import Derived.Test.YtpfgjiahpddpkaaDoorTie
import Derived.Test.YtpfgjiahpddpkaaDoorZ16
import Derived.ProofKit
import Derived.OpenShut
import Derived.LaidMore
import Derived.Lay
import Derived.SevenTiedAt
import Derived.Stop.Joined
import Derived.Deep.DeepHandedRow
import Derived.Shelf.Vars
import Derived.Lib.SmallJoins
namespace Go.Proofs.YtpfgjiahpddpkaaDoor.lexMeans
open Go.ChangeShapes Go.WideShapes Go.ChangeAt Go.WideMaps Go.WideElems Go.Joins Go.RowKit
open Go.ChangeMaps (open_string shut_string)
theorem own : ownKnob Tryd.prog.godebug = none := by kernel_rfl
theorem has_max {W : World} (h : W.ShapedOpen Tryd.prog) : HasMax W :=
  cell_of_shapedOpen_int (zero := #[.int .i64 0]) h (of_decide_eq_true (by kernel_rfl)) (by kernel_rfl) (by kernel_rfl) (by kernel_rfl) (by kernel_rfl) Tryd.underlying3
theorem witness_row {C : Checked} {os : Os} {f : FuncId} {fn : Func} {s : ChangeSpec} {conds : List PathCond} {apart : Bool} {laid : List (String × DataW Unit)} {H : Type} {enc : TypeId × Value → H} (w0 : World) (args : Array Value) (fuel : Nat) (hos : w0.os = os)
    (hsh : (w0.forCall (fun _ _ => 0) ⟨#[], args, []⟩).Shaped C.prog)
    (hok : Input.okWideB C.prog (w0.forCall (fun _ _ => 0) ⟨#[], args, []⟩) f ⟨#[], args, []⟩ = true)
    (hpre : s.preB enc C.prog fn conds apart (w0.forCall (fun _ _ => 0) ⟨#[], args, []⟩).memory args fuel = true)
    (hsz : s.sizedB enc C.prog fn apart (w0.forCall (fun _ _ => 0) ⟨#[], args, []⟩).memory args fuel = true)
    (hx : laidMetH C.prog laid (w0.forCall (fun _ _ => 0) ⟨#[], args, []⟩).memory) :
    ∃ (w : World) (tape : Tape) (i : Input), w.os = os ∧ (w.forCall tape i).Shaped C.prog ∧ i.vars = [] ∧ Input.okWide C.prog (w.forCall tape i) .any w.heap.size f i ∧
      (OpenSpec.ofChange s).preRow enc C.prog fn conds apart laid (w.forCall tape i).memory i.args ∧ ({} : Assume).holds C.prog (lone (Frame.enter C.prog f i.args .normal) [] (w.forCall tape i)) := by
  obtain ⟨w, tape, i, h1, h2, h3, h4, ⟨⟨h5, h6⟩, h7⟩, h8⟩ := ChangeSpec.witness_shaped (enc := enc) (C := C) (os := os) (f := f) (fn := fn) (s := s) (conds := conds) (apart := apart) (X := fun w _ => laidMetH C.prog laid w) false w0 args fuel hos hsh hok hpre hsz hx
  exact ⟨w, tape, i, h1, h2, h3, h4, ⟨⟨h5, h6⟩, h7⟩, h8⟩
theorem Tryd.cellsTerm : Tryd.prog.cellsOf 40 = 3 := by kernel_rfl
set_option maxRecDepth 100000 in
theorem lifted (os : Os) (started : os.Started) (H : Type) (enc : TypeId × Value → H) (F : Stop.Interp) :
    ReturnsInHanded {} Tryd.checked os 6 .any ((OpenSpec.ofChange Rows.lexMeansSpec).preRow enc Tryd.prog Tryd.f6 Rows.lexMeansRow.domain false Rows.lexMeansRow.laid) (((OpenSpec.ofChange Rows.lexMeansSpec).at F).post enc Tryd.prog Tryd.f6 false true false false) := by
  refine returnsInHanded_of_row (C := Tryd.checked) (s := OpenSpec.ofChange Rows.lexMeansSpec) own started (by kernel_rfl) Tryd.func6
    (witness_row (enc := enc) (C := Tryd.checked) (World.laidAll Tryd.prog os Rows.lexMeansRow.laid) #[.agg #[.int .i64 0, .string ⟨#[]⟩, .string ⟨#[]⟩], .string ⟨#[]⟩, .string ⟨#[]⟩] 8 (World.laidAll_os _ _ _)
      (World.shaped_of_ZipB (by kernel_rfl) (by kernel_rfl)) (by kernel_rfl) (by kernel_rfl) (by kernel_rfl)
      (by rw [MakeChecks.laidMetH_plain _ _ _ (by kernel_rfl)]; exact laidMet_laidAll _ (by kernel_rfl) (by kernel_rfl))) ?_
  intro W base args ds gs before hval0 hW _ _ _ _ hsh _
  have hval : ∀ (j : Nat) t v, Tryd.f6.params[j]? = some t → args[j]? = some v → Value.okWide Tryd.prog W .any base t v := hval0
  have hW' := hW
  obtain ⟨p, q, hA0, hV, rfl, hfz, hnd⟩ := hW
  have hA : DataW.TrodAll enc Tryd.prog W 0 (fun _ => true) true Tryd.f6.params.toList args.toList ds p := hA0
  rw [Tryd.params6] at hA hval
  obtain ⟨v0, v1, v2, d0, d1, d2, p0, p1, p2, rfl, rfl, rfl, h0, h1, h2⟩ := trodAll_three hA
  obtain ⟨rfl, rfl⟩ := trodVars_none hV
  obtain ⟨c0, c1, c2, y0, y1, y2, n, rfl, rfl, rfl, hy0, hy1, hy2⟩ := open_agg3 Tryd.underlying40 (by kernel_rfl) Tryd.cellsTerm (hval 0 40 v0 rfl rfl) h0
  obtain ⟨a, rfl, rfl, rfl, ha⟩ := open_string Tryd.underlying9 (hval 1 9 v1 rfl rfl) h1
  obtain ⟨b, rfl, rfl, rfl, hb⟩ := open_string Tryd.underlying9 (hval 2 9 v2 rfl rfl) h2
  obtain ⟨k, e0, q0, wk⟩ := DataW.trod_int Tryd.underlying38 hy0
  obtain ⟨t, e1, q1, ht⟩ := DataW.trod_string Tryd.underlying9 hy1
  obtain ⟨x, e2, q2, hx⟩ := DataW.trod_string Tryd.underlying9 hy2
  simp only [List.cons.injEq, and_true] at e0 e1 e2
  subst e0 e1 e2 q0 q1 q2
  clear hA0 hval0 hy0 hy1 hy2 h0 h1 h2 hA hval
  simp only [List.append_nil] at hW'
  refine (means_any k t x a b W (has_max hsh)).mono fun e W' ⟨he, hbl⟩ => ?_
  subst he
  have hk : ∃ n, DataW.trod enc Tryd.prog W' 0 (fun b => decide (b < W.heap.size)) true n 38 [.int .i64 k] = some (.lit (.int .i64 k), []) := ⟨1, by simp [DataW.trod, Tryd.underlying38, wk]⟩
  have htt : ∃ n, DataW.trod enc Tryd.prog W' 0 (fun b => decide (b < W.heap.size)) true n 9 [.string t] = some (.lit (.string t.data.toList), []) := ⟨1, by simp [DataW.trod, Tryd.underlying9, ht]⟩
  have hxx : ∃ n, DataW.trod enc Tryd.prog W' 0 (fun b => decide (b < W.heap.size)) true n 9 [.string x] = some (.lit (.string x.data.toList), []) := ⟨1, by simp [DataW.trod, Tryd.underlying9, hx]⟩
  exact ⟨_, rfl, _, _, _, [], [], [], hW', trodAll_cons_mk (shut_bool Tryd.underlying4 _) trodAll_mk0,
    trodAll_cons_mk (shut_agg3 Tryd.underlying40 (by kernel_rfl) Tryd.cellsTerm hk htt hxx) (trodAll_cons_mk (shut_string Tryd.underlying9 ha) (trodAll_cons_mk (shut_string Tryd.underlying9 hb) trodAll_mk0)), rfl, hbl.frame _, fun h => by cases h⟩
theorem said : Rows.LexMeansSaid :=
  OpenClaim.holds_of_cond 6 Tryd.f6 rfl rfl rfl rfl rfl rfl rfl ⟨rfl, rfl, rfl, rfl, rfl⟩ rfl rfl rfl rfl rfl (by kernel_rfl) Tryd.func6 (by kernel_rfl)
    (of_decide_eq_true (by kernel_rfl)) (by unfold Func.isWrapper; first | (rw [if_pos (by decide +kernel)]; kernel_rfl) | (rw [if_neg (by decide +kernel)]; exact ⟨rfl, rfl⟩))
    (fun os started H enc _ F => by rw [OpenClaim.pre_eq_preRow]; exact lifted os started H enc F)
theorem plain (f : FuncId) (fn : Func) (hf : Tryd.pinned.checked.prog.funcNamed "rhizome/rhizomelaw04.LexMeans" = some f) (hfn : Tryd.pinned.checked.prog.funcs[f]? = some fn) :
    true = Tryd.pinned.checked.prog.looks [] ∧ ∀ (j : Nat) t, fn.params[j]? = some t → Tryd.pinned.checked.prog.wantsStandIn t = false := by
  obtain rfl : f = 6 := Option.some.inj ((show Tryd.prog.funcNamed "rhizome/rhizomelaw04.LexMeans" = some 6 by kernel_rfl).symm.trans hf) |>.symm
  obtain rfl : fn = Tryd.f6 := (Option.some.inj (Tryd.func6.symm.trans hfn)).symm
  refine ⟨by kernel_rfl, fun j t ht => ?_⟩
  rw [Tryd.params6] at ht
  have hm : t ∈ [40, 9, 9] := by simpa using Array.mem_of_getElem? ht
  have hall : ([40, 9, 9].all fun u => !Tryd.prog.wantsStandIn u) = true := by kernel_rfl
  exact (show Tryd.prog.wantsStandIn t = false by simpa using List.all_eq_true.1 hall t hm)
theorem card : Rows.LexMeansCardSaid :=
  Claim7.holds_tied_plain_at .later [] _ _ _ _ said (fun _ h => by cases h) (by kernel_rfl) (fun _ h => by cases h) lexMeans_row_tie rfl ⟨rfl, rfl⟩ (by kernel_rfl) rfl plain (by kernel_rfl)
#print axioms card
end Go.Proofs.YtpfgjiahpddpkaaDoor.lexMeans
