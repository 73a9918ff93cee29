/- What deliver computes: what lies in its order is taken out of the map and laid into the inbox. Conditions: the box, and what its map holds. -/
import Derived.Test.YtallhdlnhegjiaaRecvBox
import Derived.BigQuiet
import Derived.BigRegion
import Derived.Deep.QuietTactic
import Derived.Deep.RegionHeld3
import Derived.Deep.AppendLies
namespace Go.Proofs.Ytallhdlnhegjiaa.Recv
open Go.ChangeShapes Go.WideShapes Go.ChangeAt Go.RowKit Go.Lib Go.Maps
set_option linter.unusedVariables false

theorem lawK : Keyed Try.prog 24 := int_keyed Try.underlying24
theorem zero9 (w : World) : (zeroValue 9).run Try.prog w = .ok (.string ⟨#[]⟩) w := by kernel_rfl
theorem key_of (x : Int) (hx : 0 ≤ x ∧ x < 16777216) : keyOf Try.prog 24 (.int .u32 x) = some (.int .u32 x) := keyOf_int_mk Try.underlying24 (by simp [Lit.wf, IntKind.min, IntKind.max, IntKind.signed, IntKind.bits]; omega)
theorem str_inj {a b : List UInt8} (h : (DataW.lit (.string a) : DataW Unit) = .lit (.string b)) : a = b := by
  injection h with h
  injection h with h
theorem look_str {w : World} {bm nn : Nat} {D : DataW Unit} (hm : w.ownsMap Try.prog 24 (plainElem (H := Unit) Try.prog 9) bm nn D) (x : Int) (hx : 0 ≤ x ∧ x < 16777216) (q : Bool) (hq : Maps.has D (.int .u32 x) = q) :
    ∃ s : ByteArray, s.size ≤ maxLen ∧ ∀ n, (Instr.lookup 99 (.map (some bm)) (.int .u32 x) true).run Try.prog (w.drewN n) = .ok (.tuple #[.string s, .bool q]) (w.drewN n) := by
  subst hq
  obtain ⟨v, ps, hrun, hv⟩ := hm.look_ok lawK Try.underlying99 (zero9 w) (plainElem_string Try.underlying9 (by decide)) (key_of x hx)
  obtain ⟨s, rfl, e, hs⟩ := plainElem_string_inv Try.underlying9 hv
  refine ⟨s, hs, fun n => ?_⟩
  obtain ⟨v2, ps2, hrun2, hv2⟩ := World.ownsMap.look_ok (w := w.drewN n) hm lawK Try.underlying99 (zero9 _) (plainElem_string Try.underlying9 (by decide)) (key_of x hx)
  obtain ⟨s2, rfl, e2, _⟩ := plainElem_string_inv Try.underlying9 hv2
  have q1 : D.atKey (.int .u32 x) (.lit (.string (⟨#[]⟩ : ByteArray).data.toList)) = .lit (.string s.data.toList) := congrArg Prod.fst e
  have q2 : D.atKey (.int .u32 x) (.lit (.string (⟨#[]⟩ : ByteArray).data.toList)) = .lit (.string s2.data.toList) := congrArg Prod.fst e2
  have q3 : s.data.toList = s2.data.toList := str_inj (q1.symm.trans q2)
  have h4 : s2 = s := by
    have q4 := Array.toList_inj.1 q3
    cases s
    cases s2
    dsimp only at q4
    rw [q4]
  rw [h4] at hrun2
  exact hrun2
/-- append of what another own row holds, be it nil or not -/
theorem wpList_append_two {P : Program} {w : World} {ops : Array Oper} {rest : List Oper} {o : Oper} {a : Act} {Q : Exit → Act → World → Prop} (hgd : o.guard = none) (s x : Operand) (t : TypeId)
    (ho : o.op = .call { callee := .builtin .append, args := #[s, x], argTypes := #[t, t] })
    (base : Nat) (e : TypeId) (i : TypeInfo) (z : Value) (size bytes : Nat) (ht : P.underlying t = some (.slice e)) (hi : P.info? e = some i) (hz : i.zero = some z)
    (hsize : i.size = size) (hby : i.bytes = bytes) (hzs : z.cells.size = size) (hsz : 0 < size)
    (v : Value) (n : Nat) (xs : List Value) (hs : a.eval s = v) (hown : w.ownsRow base e size v n xs)
    (base2 : Nat) (sv : Value) (m : Nat) (news : List Value) (hx : a.eval x = sv) (hsrc : w.ownsRow base2 e size sv m news) (h1 : ∀ u ∈ news, u.oneCell' = true)
    (h63 : n + m ≤ maxLen) (hbytes : (n + m) * bytes ≤ 140737488355328) (hbase : base ≤ w.heap.size)
    (h : ∀ v' w', w'.ownsRow base e size v' (n + m) (xs ++ news) → w.grownBy w' v.ownBlock → wpList P ops Q rest (a.put o.dst v') w') : wpList P ops Q (o :: rest) a w := by
  rcases hsrc.2 with ⟨e0, em⟩ | ⟨g, cap, cur, e0, hBg, hg, _⟩
  · subst em
    have hn : news = [] := List.eq_nil_of_length_eq_zero (by have := hsrc.1; omega)
    subst hn
    refine wpList_append_own_none hgd s x t ho base e i size ht hi v n xs hs hown (hx.trans e0) (h v w (by simpa using hown) ⟨rfl, rfl, rfl, Nat.le_refl _, fun _ _ _ => rfl⟩)
  · refine wpList_append_own w hgd s x t ho base e i z size bytes ht hi hz hsize hby hzs hsz v n xs hs hown ⟨g, 0, none⟩ m cap news (hx.trans e0) hsrc.1 (hsrc.cells (by rw [e0]; rfl)) h1 h63 hbytes hbase fun v' w' h2 h3 _ => h v' w' h2 h3
def lenOf : Value → Nat
  | .slice _ n _ => n
  | _ => 0

theorem step_delete_own {P : Program} (w : World) {ops : Array Oper} {o : Oper} {a : Act} {K : Act → World → Prop} {Q : Exit → Act → World → Prop} {E : Prop} (hg : o.guard = none) (m x : Operand) (t k : TypeId) (hop : o.op = Op.call { callee := Callee.builtin Builtin.delete, args := #[m, x], argTypes := #[t, k] })
    (e : TypeId) (Ky : Keyed P k) (ht : P.underlying t = some (.map k e)) (R : Value → Option (DataW Unit × List MemPlace)) (b n : Nat) (D : DataW Unit)
    (hm : a.eval m = .map (some b)) (hown : w.ownsMap P k R b n D) (key : Value) (kl : Lit) (hx : a.eval x = key) (hkey : keyOf P k key = some kl)
    (hK : ∀ w', w'.ownsMap P k R b n (D.del kl) → w.grownBy w' (some b) → K (a.put o.dst (.tuple #[])) w') :
    if Region.wanted o (yielded ops a.tmps) = true then Oper.wp P o a w K Q else E := by
  have hw : Region.wanted o (yielded ops a.tmps) = true := by simp [Region.wanted, hg]
  rw [if_pos hw]
  obtain ⟨w', hrun, r1, r2⟩ := hown.drop Ky ht hkey o.type
  unfold Oper.wp
  simp [execOp, hop, resolve, invoke, builtin, hm, hx, hrun, Result.andThen]
  exact hK w' r1 r2.grown

set_option maxHeartbeats 4000000 in
set_option maxRecDepth 20000 in
theorem deliver_any (B b bm nn f : Nat) (S h mr : Int) (A G : Value) (ng : Nat) (D : DataW Unit) (c : Nat → Bool) (w : World) (HX : Box w B b bm nn ((S + (f : Int)) % 16777216) h mr A f G ng D) (hH : Held S f c D) (hc : ∀ i, c i = true → i < 64) (hf : ∀ i, i < f → c i = true) (hf64 : f ≤ 64) :
    Calls Try.prog 64 #[.pointer (some ⟨b, 0, none⟩)] w fun e w' => ∃ v f' A' D', e = .returned v ∧ Box w' B b bm nn ((S + ((f' : Nat) : Int)) % 16777216) h mr A' f' G ng D' ∧ Held S f' c D' ∧ (∀ i, i < f' → c i = true) ∧ c f' = false ∧ f' ≤ 64 ∧ Below B w w' ∧ Keeps bm w w' := by
  obtain ⟨i0, hi, hz0, hz1, hz2⟩ := info_parts info9
  have HB := Lib.hid HX
  have HH := Lib.hid hH
  have HC := Lib.hid hc
  have HF := Lib.hid hf
  clear HX hH hc hf
  go_enter Try.func64, Try.ntmps64
  go_wp2_with fail
  go_loopw [3] (fun v wr => ∃ (k : Nat) (D' : DataW Unit) (ss : List Value), f ≤ k ∧ k ≤ 64 ∧ wr.ownsRow w.heap.size 9 1 v (k - f) ss ∧ (∀ u ∈ ss, u.oneCell' = true) ∧ Box wr B b bm nn ((S + (k : Int)) % 16777216) h mr A f G ng D' ∧ Held S k c D' ∧ (∀ i, i < k → c i = true) ∧ Below B w wr ∧ Keeps bm w wr ∧ w.heap.size ≤ wr.heap.size)
    (fun v _ => 64 - lenOf v)
  case atStart => exact ⟨f, D, [], Nat.le_refl _, hf64, by rw [Nat.sub_self]; exact World.ownsRow_nil _ _ _ _, by simp, HB.out, HH.out, HF.out, Below.refl _ _, Keeps.refl _ _, Nat.le_refl _⟩
  case round =>
    obtain ⟨k, D', ss, hfk, hk, hown, hss, hbx, hh, hall, hb, hkp, hsz⟩ := hrel
    have hx : 0 ≤ (S + (k : Int)) % 16777216 ∧ (S + (k : Int)) % 16777216 < 16777216 := by omega
    have hhas := hh.at_ (y := k) (by omega) HC.out
    simp only [Nat.le_refl, decide_true, Bool.true_and] at hhas
    have c0 := hbx.c0
    have c4 := hbx.c4
    have HHD := Lib.hid hh
    have HALL := Lib.hid hall
    obtain ⟨A1, c1, rfl⟩ := Own.shape hown
    cases hck : c k with
    | true =>
      rw [hck] at hhas
      have hk64 := HC.out k hck
      obtain ⟨s, hs, hlk⟩ := look_str hbx.map _ hx true hhas
      have HXX := Lib.hid hx
      have HCK := Lib.hid hck
      have HO0 := Lib.hid hown
      have HSS := Lib.hid hss
      have HBX0 := Lib.hid hbx
      have HBE0 := Lib.hid hb
      have HKP0 := Lib.hid hkp
      clear hown hss hbx hh hall hb hkp hhas hck hx
      go_wp2_with fail
      go_quiet (fail)
      have HO : Hid ((wr.drewN nq).ownsRow w.heap.size 9 1 (.slice A1 (k - f) c1) (k - f) ss) := HO0.out.kept (gb (below_drewN wr nq)) (by cases A1 <;> simp [Value.ownBlock])
      have HBX : Hid (Box (wr.drewN nq) B b bm nn ((S + (k : Int)) % 16777216) h mr A f G ng D') := HBX0.out.below (below_drewN wr nq)
      have HBE : Hid (Below B w (wr.drewN nq)) := ⟨HBE0.out.os, HBE0.out.tape, HBE0.out.output, HBE0.out.size, HBE0.out.block⟩
      have HKP : Hid (Keeps bm w (wr.drewN nq)) := HKP0.out
      have hszW : w.heap.size ≤ (wr.drewN nq).heap.size := hsz
      clear c0 c4 hlk HO0 HBX0 HBE0 HKP0
      generalize wr.drewN nq = W at HO HBX HBE HKP hszW ⊢
      go_wp2_with (first
        | (at_builtin; refine wpList_append_lies _ rfl _ _ 35 rfl w.heap.size 9 i0 (.string ⟨#[]⟩) 1 16 Try.underlying35 hi hz0 hz1 hz2 rfl (by decide) _ _ _ rfl (HO.out.alloc _) ⟨W.heap.size, 0, none⟩ 1 1 [.string s] rfl rfl ?d1 ?d2 ?d3 ?d4 ?d5 ?d6 _ rfl ?_)
        | fail)
      case d1 => exact Own.one_cell _ _ rfl
      case d2 => intro u hu; simp at hu; rcases hu with rfl; rfl
      case d3 => decide
      case d4 => unfold maxLen; omega
      case d5 => omega
      case d6 => simp; omega
      intro g7 c7 w3 hown3 hgrow3 hat3 hlt3
      have hbx3 : Box w3 B b bm nn ((S + (k : Int)) % 16777216) h mr A f G ng D' := HB.out.kept_new (HBX.out.alloc _) hgrow3 (fun j hj => (HO.out.lt j hj).1)
      have hBw : B ≤ w.heap.size := Nat.le_trans HB.out.b_ (Nat.le_of_lt HB.out.lt)
      have hbe3 : Below B w w3 := (HBE.out.alloc (Nat.le_trans hBw hszW) _).grown hgrow3 (by simp; omega) (fun j hj => Nat.le_trans hBw (HO.out.lt j hj).1)
      have hkp3 : Keeps bm w w3 := (HKP.out.alloc _).grown_own (HO.out.alloc _) hgrow3
      have hsz3 : w.heap.size ≤ w3.heap.size := Nat.le_trans hszW (Nat.le_trans (by simp) hgrow3.size)
      have hown4 : w3.ownsRow w.heap.size 9 1 (.slice (some ⟨g7, 0, none⟩) (k - f + 1) c7) (k - f + 1) (ss ++ [.string s]) := hown3
      have c0 := hbx3.c0
      have c4 := hbx3.c4
      have HO3 := Lib.hid hown4
      have HBX3 := Lib.hid hbx3
      have HBE3 := Lib.hid hbe3
      have HKP3 := Lib.hid hkp3
      have hg7 := (hown4.lt g7 rfl).1
      have KS := Lib.hid (fun (w' : World) (hg : w3.drew.grownBy w' (some bm)) => (⟨hown4.drew.kept hg (.inr (fun e => by have := HB.out.map.lt; simp [Value.ownBlock] at e; omega)), hbe3.drew.grown hg (Nat.le_trans hBw hsz3) (fun j hj => by cases hj; exact HB.out.bm_), hkp3.drew.grown hg (fun j hj => by cases hj; exact .inl rfl), Nat.le_trans hsz3 hg.size⟩ : w'.ownsRow w.heap.size 9 1 (.slice (some ⟨g7, 0, none⟩) (k - f + 1) c7) (k - f + 1) (ss ++ [.string s]) ∧ Below B w w' ∧ Keeps bm w w' ∧ w.heap.size ≤ w'.heap.size))
      clear HO HBX HBE HKP hown3 hgrow3 hat3 hown4 hbx3 hbe3 hkp3
      go_wp2_with fail
      go_region_held3 (fun w' => w'.cell? ⟨b, 4, none⟩ = some (.map (some bm)) ∧ w'.cell? ⟨b, 0, none⟩ = some (.int .u32 ((S + (k : Int)) % 16777216)))
        (first | exact hqq | exact ⟨c4, c0⟩)
        (first
          | (refine step_delete_own _ rfl _ _ 99 24 rfl 9 lawK Try.underlying99 _ bm nn D' rfl HBX3.out.drew.map _ (.int .u32 ((S + (k : Int)) % 16777216)) rfl (key_of _ HXX.out) ?_; intro w4 hm4 hg4; have hq4 := KS.out _ hg4; have hqq := (⟨(HBX3.out.drew.setM hg4 hm4).c4, (HBX3.out.drew.setM hg4 hm4).c0⟩ : w4.cell? ⟨b, 4, none⟩ = some (.map (some bm)) ∧ w4.cell? ⟨b, 0, none⟩ = some (.int .u32 ((S + (k : Int)) % 16777216)))))
      have hbx4 := HBX3.out.drew.setM hg4 hm4
      have hhd4 := HHD.out.del
      have c0 := hqq.2
      have f0 := hbx4.free 0
      have HBX4 := Lib.hid hbx4
      have HHD4 := Lib.hid hhd4
      have HQ4 := Lib.hid hq4
      clear hqq hbx4 hhd4 hq4 hg4 hm4
      go_wp2_with (go_at_call 21; refine (Seq.add_any _ _ _).mono ?_; rintro e w' ⟨rfl, rfl⟩)
      go_roundw
      case rel =>
        have hks : (S + (k : Int) + 1) % 16777216 = (S + ((k + 1 : Nat) : Int)) % 16777216 := by omega
        have hkf : k + 1 - f = k - f + 1 := by omega
        obtain ⟨ho, hb, hkp, hsz4⟩ := HQ4.out
        rw [hks]
        refine ⟨k + 1, _, ss ++ [.string s], by omega, by omega, ?_, ?_, HBX4.out.setR _, HHD4.out, ?_, hb.setCell (by exact HB.out.b_) _, hkp.setCell HBX4.out.blk _, by simpa [World.setCell] using hsz4⟩
        · rw [hkf]
          exact ownsRow_setCell_other ho (own_ne ho HBX4.out.blk (by decide)) _
        · intro u hu
          rcases List.mem_append.1 hu with hu | hu
          · exact HSS.out u hu
          · rw [List.mem_singleton.1 hu]; rfl
        · intro i hi
          rcases Nat.lt_or_ge i k with h1 | h1
          · exact HALL.out i h1
          · obtain rfl : i = k := by omega
            exact HCK.out
      case measure => simp [lenOf]; omega
    | false =>
      rw [hck] at hhas
      obtain ⟨s, hs, hlk⟩ := look_str hbx.map _ hx false hhas
      have HXX := Lib.hid hx
      have HCK := Lib.hid hck
      have HO0 := Lib.hid hown
      have HSS := Lib.hid hss
      have HBX0 := Lib.hid hbx
      have HBE0 := Lib.hid hb
      have HKP0 := Lib.hid hkp
      clear hown hss hbx hh hall hb hkp hhas hck hx
      go_wp2_with fail
      go_quiet (fail)
      have HO : Hid ((wr.drewN nq).ownsRow w.heap.size 9 1 (.slice A1 (k - f) c1) (k - f) ss) := HO0.out.kept (gb (below_drewN wr nq)) (by cases A1 <;> simp [Value.ownBlock])
      have HBX : Hid (Box (wr.drewN nq) B b bm nn ((S + (k : Int)) % 16777216) h mr A f G ng D') := HBX0.out.below (below_drewN wr nq)
      have HBE : Hid (Below B w (wr.drewN nq)) := ⟨HBE0.out.os, HBE0.out.tape, HBE0.out.output, HBE0.out.size, HBE0.out.block⟩
      have HKP : Hid (Keeps bm w (wr.drewN nq)) := HKP0.out
      have hszW : w.heap.size ≤ (wr.drewN nq).heap.size := hsz
      clear c0 c4 hlk HO0 HBX0 HBE0 HKP0
      generalize wr.drewN nq = W at HO HBX HBE HKP hszW ⊢
      have c5 := HBX.out.c5
      obtain ⟨is, his, hio⟩ := HBX.out.inb
      have HCL := Lib.hid (clone_any A f is his B W hio (by omega))
      have HIS := Lib.hid his
      clear his hio
      have hBw : B ≤ w.heap.size := Nat.le_trans HB.out.b_ (Nat.le_of_lt HB.out.lt)
      go_wp2_with fail
      refine HCL.out.mono ?_
      rintro e W2 ⟨v2, rfl, ho2, hb2⟩
      have hbx2 := HBX.out.below hb2
      have hbe2 := HBE.out.trans (hb2.mono (Nat.le_trans hBw hszW))
      have hkp2 := HKP.out.below hb2
      have hos2 : W2.ownsRow w.heap.size 9 1 (.slice A1 (k - f) c1) (k - f) ss := HO.out.kept (gb hb2) (by cases A1 <;> simp [Value.ownBlock])
      have f5 := hbx2.free 5
      have HBX2 := Lib.hid hbx2
      have HBE2 := Lib.hid hbe2
      have HKP2 := Lib.hid hkp2
      have HO2 := Lib.hid ho2
      have hWW := hb2.size
      have HS2 := Lib.hid hos2
      clear HCL hb2 c5 hbx2 hbe2 hkp2 ho2 HO hos2
      go_wp2_with (first
        | (at_builtin; refine wpList_append_two rfl _ _ 35 rfl W.heap.size 9 i0 (.string ⟨#[]⟩) 1 16 Try.underlying35 hi hz0 hz1 hz2 rfl (by decide) _ _ _ rfl HO2.out w.heap.size (.slice A1 (k - f) c1) (k - f) ss rfl HS2.out HSS.out ?d4 ?d5 hWW ?_)
        | fail)
      case d4 => unfold maxLen; omega
      case d5 => omega
      intro v3 w3 hown3 hgrow3
      obtain ⟨A3, c3, rfl⟩ := Own.shape hown3
      have hr : ∀ j, v2.ownBlock = some j → W.heap.size ≤ j := fun j hj => (HO2.out.lt j hj).1
      have hbx3 := HBX.out.kept_new HBX2.out hgrow3 hr
      have hbe3 := HBE2.out.grown hgrow3 (Nat.le_trans hBw (Nat.le_trans hszW hWW)) (fun j hj => Nat.le_trans (Nat.le_trans hBw hszW) (hr j hj))
      have hkp3 := HKP2.out.grown_own HO2.out hgrow3
      clear f5
      have f5 := hbx3.free 5
      have c5 := hbx3.c5
      have HBX3 := Lib.hid hbx3
      have HBE3 := Lib.hid hbe3
      have HKP3 := Lib.hid hkp3
      have HO3 := Lib.hid (own_base hown3 (Nat.le_trans hBw hszW))
      clear hbx3 hbe3 hkp3 hown3 hgrow3 hr
      go_wp2_with fail
      go_ret
      refine ⟨_, k, .slice A3 k c3, D', rfl, ?_, HHD.out, HALL.out, HCK.out, hk, HBE3.out.setCell HB.out.b_ _, HKP3.out.setCell HBX3.out.blk _⟩
      refine HBX3.out.setA ?_ HO3.out
      intro u hu
      rcases List.mem_append.1 hu with hu | hu
      · exact HIS.out u hu
      · exact HSS.out u hu
end Go.Proofs.Ytallhdlnhegjiaa.Recv
