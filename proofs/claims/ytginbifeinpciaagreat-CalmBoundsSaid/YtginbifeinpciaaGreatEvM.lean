/- An abstract machine for the model's code, and its soundness: part M. -/
import Derived.Test.YtginbifeinpciaaGreatEvL
/- A function, from its one first frame. -/
namespace Go.Ev
open Go Go.RowKit Go.ChangeMaps

section
variable {P : Program}
theorem fn_frame (hp : Plain P) {g : FuncId} {fn : Func} {c : Code} (hg : P.funcs[g]? = some fn) (hb : fn.body = some c) {args : List AV} (hn : fn.ntmps ≤ 256) (hal : args.length ≤ fn.ntmps) :
    ∃ f : Fr, f.df = [] ∧ f.rd = none ∧ f.nt = fn.ntmps ∧ (∀ t, f.get t = (args[t]?).getD Ev.und) ∧
      ∀ H H' v, (∃ e f1 vs, (e = .normal ∨ e = .ret) ∧ CodeS P c f H e f1 H' ∧ f1.df = [] ∧ resA P H' f1 fn.results.toList = some vs ∧ packA vs = v) → H.nx ≤ H'.nx ∧ CallS P g args H v H' := by
  have hle : Nat.ble (Nat.add (len args) (Nat.sub fn.ntmps (len args))) mT = true := Nat.ble_eq_true_of_le (by rw [len_eq]; show args.length + (fn.ntmps - args.length) ≤ 256; omega)
  refine ⟨⟨putArgs args 0 .und, [], Nat.add (len args) (Nat.sub fn.ntmps (len args)), none, g⟩, rfl, rfl, ?_, fun (t : Nat) => ?_, fun H H' v ⟨e, f1, vs, he, h, hdf1, hres, hv⟩ => ⟨h.1, fun N m w us hN st hla => ?_⟩⟩
  · show Nat.add (len args) (Nat.sub fn.ntmps (len args)) = _
    rw [len_eq]
    show args.length + (fn.ntmps - args.length) = _
    omega
  · show (putArgs args 0 FT.und).get t = _
    rw [putArgs_get args 0 FT.und (by omega) t, FT.und_get]
    by_cases ht : t < args.length
    · rw [if_pos ⟨Nat.zero_le _, by omega⟩]; rfl
    · rw [if_neg (by omega), List.getElem?_eq_none (by omega)]; rfl
  refine ⟨.enter g us, w, callFunc_enter hp hg hb us w, ?_⟩
  have hfr : frK (R := Fr) g fn.ntmps args some = some ⟨putArgs args 0 .und, [], Nat.add (len args) (Nat.sub fn.ntmps (len args)), none, g⟩ := by
    unfold frK
    rw [hle]
  obtain ⟨f, h1, h2, h3, h4⟩ := frK_some hfr
  injection h1 with h1
  subst h1
  refine callsIn_of_wp_marks hg hb trivial (wpIn_mono (h.2 N m w _ none hN st (h4 m us hla) (fun e a1 w1 => (e = .normal ∨ e = .ret) ∧ ∃ m1, Stp m H w m1 H' w1 ∧ St N m1 H' w1 ∧ FrRel m1 none f1 a1) fun m1 a1 w1 s1 st1 fr1 => ?_) fun e a1 w1 hq => ?_) rfl
  · rcases he with rfl | rfl
    · exact ⟨.inl rfl, m1, s1, st1, fr1⟩
    · exact ⟨.inr rfl, m1, s1, st1, fr1⟩
  · obtain ⟨he, m1, s1, st1, fr1⟩ := hq
    subst hv
    obtain ⟨u, hu, hr⟩ := results_run st1.rel fr1.ev hres
    have hd : a1.defers = [] := by
      have := fr1.df
      rw [hdf1] at this
      generalize a1.defers = ds at this ⊢
      cases this
      rfl
    have key : LeavesInM Fence.wide 0 P fn a1.tmps (fun e w' => ∃ v, e = .returned v ∧ Post N m H w (packA vs) H' v w') a1.defers .returning w1 := by
      rw [hd]
      exact ⟨u, hu, u, rfl, m1, s1, st1, hr⟩
    rcases he with rfl | rfl
    · exact key
    · exact key
end
end Go.Ev
