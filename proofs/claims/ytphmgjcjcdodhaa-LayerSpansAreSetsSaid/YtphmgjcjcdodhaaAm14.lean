/-
  The abstract machine, part 14: functions, and what may be said of them to their callers.
-/
import Derived.Test.YtphmgjcjcdodhaaAm13
namespace Go.AM
open Go.RowKit

section
variable {C : Ctx} {pf : FuncId → Bool}

theorem results_sound {w : World} {S : Nat → Prop} {G : Nat → GI} {st : St} {a : Act} (hi : Inv C.P w S G st.hp st.nx) (hs : ∀ t, RepO w S G st.nx (st.σ t) (a.tmps.getD t undef)) :
    ∀ {l : List ResultVar} {xs : List PV}, allSome (l.map (resultA C.P st)) = some xs → ∃ vs, (l.mapM (m := Sem) fun r => match r with
      | .tmp t => pure (a.tmps.getD t undef)
      | .cell p t => do loadVar t (← asAddr (a.tmps.getD p undef))).run C.P w = .ok vs w ∧ Zip (RepO w S G st.nx) xs vs
  | [], xs, h => by
    simp only [List.map_nil, allSome] at h
    injection h with h
    subst h
    exact ⟨[], by simp, .nil⟩
  | r :: l, xs, h => by
    simp only [List.map_cons] at h
    cases hr : resultA C.P st r with
    | none => rw [hr] at h; simp [allSome] at h
    | some p =>
      rw [hr] at h
      simp only [allSome] at h
      cases hl : allSome (l.map (resultA C.P st)) with
      | none => rw [hl] at h; simp at h
      | some ys =>
        rw [hl] at h
        simp at h
        subst h
        obtain ⟨vs, h1, h2⟩ := results_sound hi hs hl
        cases r with
        | tmp t =>
          simp only [resultA] at hr
          injection hr with hr
          subst hr
          refine ⟨a.tmps.getD t undef :: vs, ?_, .cons (hs t) h2⟩
          simp only [List.mapM_cons, Sem.run_bind, Sem.run_pure, Result.andThen_ok, h1]
        | cell q t =>
          simp only [resultA] at hr
          obtain ⟨v, w', S', G', e1, k, hx⟩ := load_done hi hr (hs q)
          have hq := hs q
          have hld : ∃ v, (do loadVar t (← asAddr (a.tmps.getD q undef)) : Sem Value).run C.P w = .ok v w ∧ RepO w S G st.nx p v := by
            unfold loadA at hr
            split at hr
            · rename_i cs hσ
              rw [hσ] at hq
              have hc := hq.ptr_inv
              generalize a.tmps.getD q undef = u at *
              cases hc with
              | ptr us g1 g2 =>
                obtain ⟨v, hv, hr'⟩ := read_done (G := G) (nx := st.nx) (w := w) (S := S) hr _ us (fun j pv hj => ⟨(g1 j pv hj).2, .c (g2 j pv hj)⟩)
                exact ⟨v, by simp [asAddr, hv], hr'⟩
            · rename_i id i j hσ
              rw [hσ] at hq
              obtain ⟨hid, hu⟩ := hq.ref_inv
              rw [hu] at e1 ⊢
              split at hr
              · rename_i b hb
                split at hr
                · rename_i c hc
                  obtain ⟨cur, h3, h4, h5⟩ := (hi.live id b hb).row
                  have hcell : ∀ k : Nat, w.cell? ((⟨(G id).g, i * (G id).s + j, none⟩ : Addr).add k) = cur[i * (G id).s + j + k]? := by
                    intro k
                    rw [Addr.add_lit, cell_of_row w _ _ cur _ _ h3]
                  obtain ⟨v, hv, hr'⟩ := read_done (G := G) (nx := st.nx) (w := w) (S := S) hr ⟨(G id).g, i * (G id).s + j, none⟩ (fun k => (cur[i * (G id).s + j + k]?).getD undef) (fun k pv hk => by
                    rw [List.getElem?_drop] at hk
                    obtain ⟨u, h6, h7⟩ := h5 i (j + k) c pv hc hk
                    rw [hcell]
                    have e : i * (G id).s + j + k = i * (G id).s + (j + k) := by omega
                    rw [e, h6]
                    exact ⟨rfl, h7.2.1⟩)
                  exact ⟨v, by simp [asAddr, hv], hr'⟩
                · cases hr
              · cases hr
            · cases hr
          obtain ⟨v, hv, hvr⟩ := hld
          refine ⟨v :: vs, ?_, .cons hvr h2⟩
          simp only [List.mapM_cons, Sem.run_bind, hv, Result.andThen_ok, h1, Sem.run_pure]

theorem func_calls (hΓ : ∀ g spec, C.Γ g = some spec → SpecSound C.P g spec) (hpf : ∀ g spec, pf g = true → C.Γ g = some spec → Quiet spec) (hbk : ∀ g spec, C.bk g = true → C.Γ g = some spec → BoxKeep spec) (hm : C.P.follows .mixedOrders = true)
    {f : FuncId} {fn : Func} {code : Code} (hf : C.P.funcs[f]? = some fn) (hb : fn.body = some code) (hok : codeOk pf C.dyn C.lds C.bk fn.ntmps code = true)
    {args : List PV} {hp hp' : Hp} {nx nx' : Nat} {x : PV} (h : evalFunc C fn args hp nx = some (x, hp', nx')) {w : World} {S : Nat → Prop} {G : Nat → GI} {vs : List Value} (hi : Inv C.P w S G hp nx) (hz : Zip (RepO w S G nx) args vs) (hn : args.length ≤ fn.ntmps) :
    Calls C.P f vs.toArray w fun e w' => ∃ v S' G', e = .returned v ∧ Stp C.P hp nx S G w hp' nx' S' G' w' ∧ RepO w' S' G' nx' x v := by
  unfold evalFunc at h
  simp only [hb] at h
  refine calls_of_wp hf hb ?_
  have hsim : Sim C.P w S (liveIn hp G) fn.ntmps nx G ⟨startσ args, hp, nx⟩ { tmps := vs.toArray ++ Array.replicate (fn.ntmps - vs.toArray.size) undef, defers := [] } w := by
    refine ⟨S, G, hi, fun t => ?_, ?_, rfl, fun _ h => h, fun _ h => .inl h, fun id b hb => .inl ⟨id, b, hb, rfl⟩, Fr.refl _ _, Nat.le_refl _, fun _ _ => rfl⟩
    · have hvl : vs.length = args.length := hz.1.symm
      unfold startσ
      by_cases ht : t < args.length
      · have h1 : args[t]? = some args[t] := List.getElem?_eq_getElem ht
        have h2 : vs[t]? = some (vs[t]'(by omega)) := List.getElem?_eq_getElem (by omega)
        have h3 := hz.2 t _ _ h1 h2
        have h4 : (vs.toArray ++ Array.replicate (fn.ntmps - vs.toArray.size) undef)[t]? = vs[t]? := by
          rw [Array.getElem?_append_left (by simpa using (by omega : t < vs.length))]
          simp
        simp only [h1, Option.getD_some]
        rw [Array.getD_eq_getD_getElem?, h4, h2]
        exact h3
      · have h1 : args[t]? = none := List.getElem?_eq_none (by omega)
        have h4 : (vs.toArray ++ Array.replicate (fn.ntmps - vs.toArray.size) undef).getD t undef = undef := by
          rw [Array.getD_eq_getD_getElem?, Array.getElem?_append_right (by simpa using (by omega : vs.length ≤ t)), Array.getElem?_replicate]
          split <;> rfl
        simp only [h1, Option.getD_none]
        rw [h4]
        exact repO_undef
    · have hvl : vs.length = args.length := hz.1.symm
      simp
      omega
  have fin : ∀ (e : Exit) (st : St), (e = .normal ∨ e = .ret) → evalCode C code ⟨startσ args, hp, nx⟩ = some (e, st) → (resultsA C.P fn st).map (fun x => (x, st.hp, st.nx)) = some (x, hp', nx') →
      code.wp C.P (bodyPost C.P fn fun e w' => ∃ v S' G', e = .returned v ∧ Stp C.P hp nx S G w hp' nx' S' G' w' ∧ RepO w' S' G' nx' x v) { tmps := vs.toArray ++ Array.replicate (fn.ntmps - vs.toArray.size) undef, defers := [] } w := by
    intro e st he hev hr
    obtain ⟨r, hr1, hr2⟩ := map_some_inv hr
    injection hr2 with e1 hr2
    injection hr2 with e2 e3
    subst e1; subst e2; subst e3
    refine code_sound hΓ hpf hbk hm code hok _ st e _ w _ hev hsim fun a' w' hs' => ?_
    obtain ⟨S', G', hS⟩ := hs'
    have hk : Stp C.P hp nx S G w st.hp st.nx S' G' w' := ⟨hS.inv, hS.up, hS.loc, hS.s0, hS.s1, hS.own, hS.fr⟩
    have hres : ∃ v, (results fn a'.tmps).run C.P w' = .ok v w' ∧ RepO w' S' G' st.nx r v := by
      unfold resultsA at hr1
      have go : ∀ xs, allSome (fn.results.toList.map (resultA C.P st)) = some xs → r = (match xs with | [x] => x | xs => .tup xs) → ∃ v, (results fn a'.tmps).run C.P w' = .ok v w' ∧ RepO w' S' G' st.nx r v := by
        intro xs hx hrx
        obtain ⟨us, h1, h2⟩ := results_sound hS.inv hS.slots hx
        have hrun : (results fn a'.tmps).run C.P w' = .ok (if h : us.toArray.size = 1 then us.toArray[0] else .tuple us.toArray) w' := by
          unfold results
          rw [Array.mapM_eq_mapM_toList]
          simp only [Sem.run_bind, Sem.run_map]
          erw [h1]
          rfl
        refine ⟨_, hrun, ?_⟩
        match xs, h2, hrx with
        | [], h2, hrx =>
          rw [h2.unnil]
          subst hrx
          exact .tup rfl (by simp)
        | [y], h2, hrx =>
          obtain ⟨u, rfl, hu⟩ := zip_one h2
          subst hrx
          simpa using hu
        | y :: z :: ys, h2, hrx =>
          have hl := h2.1
          subst hrx
          rw [dif_neg (by simp at hl ⊢; omega)]
          exact .tup (by simpa using hl) (fun j pv u hj hu => h2.2 j pv u hj (by simpa using hu))
      split at hr1
      · rename_i y hy
        injection hr1 with hr1
        exact go [y] hy hr1.symm
      · rename_i xs hne hx
        injection hr1 with hr1
        refine go xs hx ?_
        rw [← hr1]
        match xs, hne with
        | [], _ => rfl
        | [y], hne => exact (hne y rfl).elim
        | y :: z :: ys, _ => rfl
      · cases hr1
    obtain ⟨v, hv1, hv2⟩ := hres
    rcases he with rfl | rfl
    · exact ⟨hS.defers, v, hv1, v, S', G', rfl, hk, hv2⟩
    · exact ⟨hS.defers, v, hv1, v, S', G', rfl, hk, hv2⟩
  split at h
  · rename_i st hev; exact fin _ st (.inl rfl) hev h
  · rename_i st hev; exact fin _ st (.inr rfl) hev h
  · cases h

end
end Go.AM
