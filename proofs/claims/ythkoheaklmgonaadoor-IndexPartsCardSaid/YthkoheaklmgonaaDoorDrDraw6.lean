/-
  Regions whose order is drawn: any order, held against the canonical run.
-/
import Derived.Test.YthkoheaklmgonaaDoorDrDraw5
namespace Go.Dr
open Go.RowKit

variable {P : Program} {B : Nat} {w0 : World} {call : CallF} {ops : Array Oper} {W : Nat} {a0 aN : AAct} {h0 hN : AH} {cs : List Cel}

/-- a block that the canonical run has laid, and the real one not yet -/
def Prom (P : Program) (h0 : AH) (φ : Phi) (H : AH) (c : Cel) : Prop :=
  ∃ mkv O, Shape mkv ∧ h0.next ≤ c.h.next ∧ c.h.next < H.next ∧ H.get c.h.next = some O ∧ φ c.h.next = none ∧ evC P c.r.c c.a c.h = .ok (.value (mkv c.h.next), c.h.push O) ∧
    ∀ H, evC P c.r.c c.a H = .ok (.value (mkv H.next), H.push O)

structure Pre (P : Program) (B : Nat) (w0 : World) (ops : Array Oper) (a0 aN : AAct) (h0 hN : AH) (cs : List Cel) (φ0 : Phi) (rd : Bool) (S : Nat → Prop) (c1 c2 : List Cel) (φ : Phi) (s : AAct) (tm : Array Value) (ds : List Deferred) (w : World) : Prop where
  split : cs = c1 ++ c2
  sub : ∀ i, S i → ∃ c ∈ c1, c.r.i = i
  heavies : ∀ c ∈ c1, c.r.k.isHeavy = true → S c.r.i
  closed : ∀ i o e, S i → ops[i]? = some o → e ∈ o.after.toList → bindsE e = true → S e.on
  valS : ∀ t i, S i → dstOf ops i = some t → s.val t = aN.val t
  valN : ∀ t, (∀ i, S i → dstOf ops i ≠ some t) → s.val t = a0.val t
  n : s.n = a0.n
  dsE : s.ds = (stA c2 aN).ds
  st : St P B w0 φ s (stH c2 hN) rd tm ds w
  rda : a0.rd = rd
  ext : Ext φ0 h0 φ (stH c2 hN)
  prom : ∀ c ∈ c1, ¬ S c.r.i → c.r.k = .alloc → wantedA ops c.r.o c.a = .ok true → Prom P h0 φ (stH c2 hN) c
  apart : ∀ c ∈ c1, ∀ d ∈ c1, ¬ S c.r.i → c.r.k = .alloc → wantedA ops c.r.o c.a = .ok true → ¬ S d.r.i → d.r.k = .alloc → wantedA ops d.r.o d.a = .ok true → c.r.i ≠ d.r.i → c.h.next ≠ d.h.next

def HeadHeavy (c2 : List Cel) : Prop := ∀ c c3, c2 = c :: c3 → c.r.k.isHeavy = true

theorem kind_cases (k : DKind) : k.isHeavy = true ∨ k = .pure ∨ k = .read ∨ k = .alloc := by
  cases k
  · exact .inl rfl
  · exact .inr (.inl rfl)
  · exact .inr (.inr (.inl rfl))
  · exact .inr (.inr (.inr rfl))

/-- what a light operation does to the canonical heap -/
theorem light_heap {r : DRow} {a a1 : AAct} {h h1 : AH} (hr : RowOk P ops r) (hk : r.k.isHeavy = false) (hs : StepOf P call ops r a h a1 h1) :
    a1.ds = a.ds ∧ ((h1 = h ∧ ¬ (r.k = .alloc ∧ wantedA ops r.o a = .ok true)) ∨ (r.k = .alloc ∧ wantedA ops r.o a = .ok true ∧
      ∃ mkv O, Shape mkv ∧ h1 = h.push O ∧ evC P r.c a h = .ok (.value (mkv h.next), h.push O) ∧ ∀ H, evC P r.c a H = .ok (.value (mkv H.next), H.push O))) := by
  rcases hs with ⟨hw, hs⟩ | ⟨hw, rfl, rfl⟩
  · unfold evOper at hs
    rw [hr.comp] at hs
    simp only at hs
    split at hs
    · rename_i n h2 he
      rcases kind_cases r.k with hh | hk2 | hk2 | hk2
      · rw [hh] at hk; cases hk
      · obtain ⟨v, rfl, rfl, _⟩ := pure_ok (rowKind_pure (hr.kind ▸ hk2)) he
        simp only [forceV_eq] at hs
        cases hs
        exact ⟨(AAct.put_ds _ _ _).1, .inl ⟨rfl, fun e => by rw [hk2] at e; cases e.1⟩⟩
      · obtain ⟨v, rfl, rfl⟩ := read_ok (rowKind_read (hr.kind ▸ hk2)) he
        simp only [forceV_eq] at hs
        cases hs
        exact ⟨(AAct.put_ds _ _ _).1, .inl ⟨rfl, fun e => by rw [hk2] at e; cases e.1⟩⟩
      · obtain ⟨mkv, O, e1, rfl, rfl, _, e5⟩ := alloc_ok hr.comp (hr.kind ▸ hk2) he
        simp only [forceV_eq] at hs
        cases hs
        exact ⟨(AAct.put_ds _ _ _).1, .inr ⟨hk2, hw, mkv, O, e1, rfl, e5 _, e5⟩⟩
    · cases hs
  · exact ⟨(AAct.put_ds _ _ _).1, .inl ⟨rfl, fun e => by rw [hw] at e; cases e.2⟩⟩

variable {φ0 : Phi} {rd : Bool}

/-- on to the next heavy operation -/
theorem advance (C : Canon P call ops a0 h0 aN hN W cs) {S : Nat → Prop} {φ : Phi} {s : AAct} {tm : Array Value} {ds : List Deferred} {w : World} :
    ∀ (c2 c1 : List Cel), Pre P B w0 ops a0 aN h0 hN cs φ0 rd S c1 c2 φ s tm ds w → ∃ d1 d2, HeadHeavy d2 ∧ Pre P B w0 ops a0 aN h0 hN cs φ0 rd S d1 d2 φ s tm ds w
  | [], c1, p => ⟨c1, [], fun c c3 e => (by cases e), p⟩
  | c :: c2, c1, p => by
    cases hh : c.r.k.isHeavy with
    | true => exact ⟨c1, c :: c2, fun x y e => (by cases e; exact hh), p⟩
    | false =>
      have hp := C.place c1 c c2 p.split
      obtain ⟨hds, hheap⟩ := light_heap hp.fact.row hh hp.step
      have hsplit : cs = (c1 ++ [c]) ++ c2 := by rw [p.split]; simp
      have hnS : ¬ S c.r.i := fun hS => by
        obtain ⟨x, hx, hxi⟩ := p.sub _ hS
        exact (C.uniq p.split).1 x hx hxi
      refine advance C c2 (c1 ++ [c]) ?_
      have base : ∀ (st : St P B w0 φ s (stH c2 hN) rd tm ds w) (ext : Ext φ0 h0 φ (stH c2 hN)) (prom : ∀ x ∈ c1 ++ [c], ¬ S x.r.i → x.r.k = .alloc → wantedA ops x.r.o x.a = .ok true → Prom P h0 φ (stH c2 hN) x)
          (apart : ∀ x ∈ c1, ¬ S x.r.i → x.r.k = .alloc → wantedA ops x.r.o x.a = .ok true → c.r.k = .alloc → wantedA ops c.r.o c.a = .ok true → x.h.next ≠ c.h.next),
          Pre P B w0 ops a0 aN h0 hN cs φ0 rd S (c1 ++ [c]) c2 φ s tm ds w := fun st ext prom apart =>
        ⟨hsplit, fun i hi => (let ⟨x, h1, h2⟩ := p.sub i hi; ⟨x, List.mem_append_left _ h1, h2⟩), fun x hx hxh => (by
          rcases List.mem_append.1 hx with hx | hx
          · exact p.heavies x hx hxh
          · obtain rfl := List.mem_singleton.1 hx; rw [hh] at hxh; cases hxh), p.closed, p.valS, p.valN, p.n, (by rw [p.dsE, hds]; rfl), st, p.rda, ext, prom, fun x hx y hy n1 k1 m1 n2 k2 m2 hne => (by
          rcases List.mem_append.1 hx with hx1 | hx1
          · rcases List.mem_append.1 hy with hy1 | hy1
            · exact p.apart x hx1 y hy1 n1 k1 m1 n2 k2 m2 hne
            · rw [List.mem_singleton.1 hy1] at k2 m2 ⊢
              exact apart x hx1 n1 k1 m1 k2 m2
          · rcases List.mem_append.1 hy with hy1 | hy1
            · rw [List.mem_singleton.1 hx1] at k1 m1 ⊢
              exact fun e => apart y hy1 n2 k2 m2 k1 m1 e.symm
            · exact absurd (by rw [List.mem_singleton.1 hx1, List.mem_singleton.1 hy1]) hne)⟩
      rcases hheap with ⟨e, hno⟩ | ⟨hk, hw, mkv, O, e1, e2, e3, e4⟩
      · have es : stH (c :: c2) hN = stH c2 hN := e.symm
        refine base (es ▸ p.st) (es ▸ p.ext) (fun x hx h1 h2 h3 => ?_) fun x hx n1 k1 m1 k2 m2 => absurd ⟨k2, m2⟩ hno
        rcases List.mem_append.1 hx with hx | hx
        · exact es ▸ p.prom x hx h1 h2 h3
        · obtain rfl := List.mem_singleton.1 hx
          exact absurd ⟨h2, h3⟩ hno
      · have hlow : h0.next ≤ c.h.next := p.ext.next
        have hfr : φ c.h.next = none := p.st.rel.fresh
        have X : Ext φ (stH (c :: c2) hN) φ (stH c2 hN) := by
          rw [e2]
          exact ⟨.refl _, Nat.le_succ _, fun i hi e => ⟨e, by
            have hi' : i ≠ c.h.next := Nat.ne_of_lt hi
            rw [AH.get_push, if_neg hi']; rfl⟩⟩
        refine base ⟨p.st.act, p.st.defs, ?_, p.st.glob, p.st.rd⟩ (p.ext.trans X) (fun x hx h1 h2 h3 => ?_) fun x hx n1 k1 m1 k2 m2 => (by
          obtain ⟨_, _, _, _, q3, _⟩ := p.prom x hx n1 k1 m1
          exact Nat.ne_of_lt q3)
        · rw [e2]; exact p.st.rel.promise O
        · rcases List.mem_append.1 hx with hx | hx
          · obtain ⟨mkv', O', q1, q2, q3, q4, q5, q6⟩ := p.prom x hx h1 h2 h3
            obtain ⟨_, g⟩ := X.keep _ q3 q5
            exact ⟨mkv', O', q1, q2, Nat.lt_of_lt_of_le q3 X.next, g.trans q4, q5, q6⟩
          · obtain rfl := List.mem_singleton.1 hx
            refine ⟨mkv, O, e1, hlow, ?_, ?_, hfr, e3, e4⟩
            · rw [e2]; exact Nat.lt_succ_self _
            · rw [e2, AH.get_push, if_pos rfl]

/-- what an operation that is ready reads, it reads alike -/
theorem reads_alike (C : Canon P call ops a0 h0 aN hN W cs) {S : Nat → Prop} {φ : Phi} {s : AAct} {tm : Array Value} {ds : List Deferred} {w : World} {c1 c2 : List Cel}
    (p : Pre P B w0 ops a0 aN h0 hN cs φ0 rd S c1 c2 φ s tm ds w) {e1 e2 : List Cel} {c : Cel} (e : cs = e1 ++ c :: e2) (hn : ¬ S c.r.i) (hready : ∀ j, Anc ops c.r.i j → S j) (hcl : ∀ i j, S i → Anc ops i j → S j) :
    ∀ t ∈ c.r.rd, s.val t = c.a.val t ∧ (c.r.k.isRead = true → c ∈ c1 → s.val t = (stA c2 aN).val t) := by
  intro t ht
  have hp := C.place e1 c e2 e
  have writer : ∀ x ∈ cs, x.r.o.dst = some t → hasN W t = true := fun x hx hd => C.w1 _ _ _ (C.row hx).get hd
  cases hw : hasN W t with
  | false =>
    have nw : ∀ x ∈ cs, x.r.o.dst ≠ some t := fun x hx hd => by rw [writer x hx hd] at hw; cases hw
    have h1 : s.val t = a0.val t := p.valN t fun i hi hd => by
      obtain ⟨x, hx, rfl⟩ := p.sub i hi
      have hxs : x ∈ cs := by rw [p.split]; exact List.mem_append_left _ hx
      rw [(C.row hxs).dst] at hd
      exact nw x hxs hd
    have k1 := C.skip (t := t) e1 [] (c :: e2) e fun x hx => nw x (by rw [e]; exact List.mem_append_left _ hx)
    have k2 := C.skip (t := t) c1 [] c2 p.split fun x hx => nw x (by rw [p.split]; exact List.mem_append_left _ hx)
    rw [← e, C.first.1] at k1
    rw [← p.split, C.first.1] at k2
    exact ⟨h1.trans k1, fun _ _ => h1.trans k2⟩
  | true =>
    rcases hp.fact.rd t ht hw with ⟨j, hj, hd⟩ | ⟨hnr, hnone⟩
    · have hS := hready j hj
      have h1 := p.valS t j hS hd
      obtain ⟨x, hx, hxi⟩ := C.anc hj e rfl
      have hxs : x ∈ cs := by rw [e]; exact List.mem_append_left _ hx
      have hxd : x.r.o.dst = some t := by rw [← (C.row hxs).dst, hxi]; exact hd
      obtain ⟨f1, f2, hf⟩ := List.append_of_mem hx
      have e' : cs = f1 ++ x :: (f2 ++ c :: e2) := by rw [e, hf]; simp
      have k1 := C.skip (t := t) (c :: e2) e1 [] (by rw [e]; simp) fun y hy hyd => by
        have := (C.uniq e').2 y (List.mem_append_right _ hy)
        exact this (C.dst (by rw [e]; exact List.mem_append_right _ hy) hxs hyd hxd)
      rw [List.append_nil] at k1
      refine ⟨h1.trans k1.symm, fun _ hc1 => h1.trans ?_⟩
      obtain ⟨g1, g2, hg⟩ := List.append_of_mem hc1
      have e3 : cs = g1 ++ c :: (g2 ++ c2) := by rw [p.split, hg]; simp
      have k2 := C.skip (t := t) c2 c1 [] (by rw [p.split]; simp) fun y hy hyd => by
        have hyx := C.dst (by rw [p.split]; exact List.mem_append_right _ hy) hxs hyd hxd
        obtain ⟨z, hz, hzi⟩ := C.anc hj e3 rfl
        have hy3 : y ∈ g2 ++ c2 := List.mem_append_right _ hy
        obtain ⟨q1, q2, hq⟩ := List.append_of_mem hz
        have e4 : cs = q1 ++ z :: (q2 ++ c :: (g2 ++ c2)) := by rw [e3, hq]; simp
        exact (C.uniq e4).2 y (List.mem_append_right _ (List.mem_cons_of_mem _ hy3)) (by rw [hyx, hxi, hzi])
      rw [List.append_nil] at k2
      exact k2.symm
    · have k1 := C.skip (t := t) e1 [] (c :: e2) e hnone
      rw [← e, C.first.1] at k1
      have h1 : s.val t = a0.val t := p.valN t fun i hi hd => by
        obtain ⟨x, hx, rfl⟩ := p.sub i hi
        have hxs : x ∈ cs := by rw [p.split]; exact List.mem_append_left _ hx
        have hxd : x.r.o.dst = some t := by rw [← (C.row hxs).dst]; exact hd
        have hxs2 := hxs
        rw [e] at hxs2
        rcases List.mem_append.1 hxs2 with hx1 | hx1
        · exact hnone x hx1 hxd
        · rcases List.mem_cons.1 hx1 with rfl | hx1
          · exact hn hi
          · obtain ⟨f1, f2, hf⟩ := List.append_of_mem hx1
            have e' : cs = (e1 ++ c :: f1) ++ x :: f2 := by rw [e, hf]; simp
            rcases (C.place _ _ _ e').fact.old t hxd hw c (by simp) ht with ⟨j, hj, hjd⟩ | h2 | h2
            · obtain ⟨z, hz, hzi⟩ := C.anc hj e rfl
              have hzs : z ∈ cs := by rw [e]; exact List.mem_append_left _ hz
              exact hnone z hz (by rw [← (C.row hzs).dst, hzi]; exact hjd)
            · exact (C.uniq e').1 c (by simp) h2
            · exact hn (hcl _ _ hi h2)
      exact ⟨h1.trans k1, fun hr => by rw [hnr] at hr; cases hr⟩

end Go.Dr
