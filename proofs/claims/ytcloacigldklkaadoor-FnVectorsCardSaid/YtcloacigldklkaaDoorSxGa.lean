/-
  Sx, parts A, Al, B, F, Q, R, Y, Za, Zb, Zc, Rb, C, D.
-/
import Derived.WalkKit
import Derived.WalkLawsBesides
/-
  Sx, part A: words on which the symbolic walk rests: floats up to the choice of a not-a-number, expressions and their values,
  symbolic values, and when a symbolic value stands for a value of the model. Nothing here names a program.
-/
namespace Go.Sx

/-- A float up to the choice of a not-a-number: 'none' is any of them. -/
abbrev Fl := Option Nat

def isNanW (k : FloatKind) (b : Nat) : Bool := (k.format.read b).isNaN
/-- The class of a word. -/
def cn (k : FloatKind) (b : Nat) : Fl := if isNanW k b then none else some b

namespace Fl
def lift2 (f : Nat → Nat → Option Nat) (x y : Fl) : Fl :=
  match x, y with
  | some a, some b => f a b
  | _, _ => none
def add (k : FloatKind) : Fl → Fl → Fl := lift2 k.format.add
def sub (k : FloatKind) : Fl → Fl → Fl := lift2 k.format.sub
def mul (k : FloatKind) : Fl → Fl → Fl := lift2 k.format.mul
def div (k : FloatKind) : Fl → Fl → Fl := lift2 k.format.div
def ord (k : FloatKind) (x y : Fl) : Option Ordering :=
  match x, y with
  | some a, some b => k.format.order a b
  | _, _ => none
def eq (k : FloatKind) (x y : Fl) : Bool := ord k x y == some .eq
def lt (k : FloatKind) (x y : Fl) : Bool := ord k x y == some .lt
def le (k : FloatKind) (x y : Fl) : Bool := ord k x y == some .lt || ord k x y == some .eq
def gt (k : FloatKind) (x y : Fl) : Bool := ord k x y == some .gt
def ge (k : FloatKind) (x y : Fl) : Bool := ord k x y == some .gt || ord k x y == some .eq
def neg (k : FloatKind) : Fl → Fl
  | some a => some (Op.negFloat k a)
  | none => none
/-- The sign cleared. -/
def abs (k : FloatKind) : Fl → Fl
  | some a => some (a % k.format.signWeight)
  | none => none
/-- Cut toward zero. -/
def toInt (k : FloatKind) : Fl → Int
  | some a => ((k.decode a).toInt .zero).getD 0
  | none => 0
def sqrt : Fl → Fl
  | some a => FloatKind.f64.format.sqrt a
  | none => none
/-- From one kind to the other (where it fits). -/
def conv (s d : FloatKind) : Fl → Fl
  | some a => if s = d then some a else some (d.encode (s.decode a))
  | none => none
/-- Whether the conversion is told by the language: no overflow of a finite number. -/
def convOk (s d : FloatKind) : Fl → Bool
  | some a => s = d || (s.decode a).isInfinity || !(d.decode (d.encode (s.decode a))).isInfinity
  | none => true
def bits : Fl → Int
  | some a => a
  | none => 0
def ofBits (k : FloatKind) (n : Int) : Fl := cn k n.toNat
def integral (way : Ieee.Toward) : Fl → Fl
  | some a => some (FloatKind.f64.encode ((FloatKind.f64.decode a).integral way))
  | none => none
end Fl

/-- Values of expressions. -/
inductive D where
  | b (x : Bool)
  | i (x : Int)
  | f (x : Fl)
  | s (x : ByteArray)
  | p (x y : D)
  | l (xs : List D)

namespace D
def toB : D → Bool | .b x => x | _ => false
def toI : D → Int | .i x => x | _ => 0
def toF : D → Fl | .f x => x | _ => none
def toS : D → ByteArray | .s x => x | _ => .empty
def fst : D → D | .p x _ => x | d => d
def snd : D → D | .p _ y => y | d => d
def toL : D → List D | .l xs => xs | _ => []
/-- An element of a row. -/
def at_ (d : D) (n : Nat) : D := d.toL.getD n (.b false)
theorem toB_b (x : Bool) : (D.b x).toB = x := rfl
theorem toI_i (x : Int) : (D.i x).toI = x := rfl
theorem toF_f (x : Fl) : (D.f x).toF = x := rfl
theorem toS_s (x : ByteArray) : (D.s x).toS = x := rfl
theorem toL_l (x : List D) : (D.l x).toL = x := rfl
end D

inductive O1 where
  | not | fneg (k : FloatKind) | sqrt | conv (s d : FloatKind) | convOk (s d : FloatKind)
  | i2f (k : FloatKind) | bits | ofBits (k : FloatKind) | nan | wrap (k : IntKind) | slen | integral (way : Ieee.Toward)
  | fst | snd | fabs (k : FloatKind) | f2i (k : FloatKind) | byte | llen
  deriving DecidableEq

inductive O2 where
  | fadd (k : FloatKind) | fsub (k : FloatKind) | fmul (k : FloatKind) | fdiv (k : FloatKind)
  | feq (k : FloatKind) | flt (k : FloatKind) | fle (k : FloatKind) | fsame
  | iadd | isub | imul | itdiv | itmod | ishl | ishr | iand (k : IntKind) | ior (k : IntKind) | ixor (k : IntKind) | iandn (k : IntKind)
  | ieq | ilt | ile | beq | band | bor
  | sidx | scat | seq | slt | sel | pair | lpush | lrep | lapp
  deriving DecidableEq

inductive O3 where
  | ite | ssub | upd | lsub
  deriving DecidableEq

/-! ### Numbers of operations: what is compared is a number -/

def O1.code : O1 → Nat
  | .not => 0
  | .sqrt => 1
  | .bits => 2
  | .nan => 3
  | .slen => 4
  | .fst => 5
  | .snd => 6
  | .fneg .f32 => 7
  | .fneg .f64 => 8
  | .i2f .f32 => 9
  | .i2f .f64 => 10
  | .ofBits .f32 => 11
  | .ofBits .f64 => 12
  | .fabs .f32 => 13
  | .fabs .f64 => 14
  | .f2i .f32 => 15
  | .f2i .f64 => 16
  | .conv .f32 .f32 => 17
  | .conv .f32 .f64 => 18
  | .conv .f64 .f32 => 19
  | .conv .f64 .f64 => 20
  | .convOk .f32 .f32 => 21
  | .convOk .f32 .f64 => 22
  | .convOk .f64 .f32 => 23
  | .convOk .f64 .f64 => 24
  | .integral .even => 25
  | .integral .down => 26
  | .integral .up => 27
  | .integral .zero => 28
  | .wrap .i8 => 29
  | .wrap .i16 => 30
  | .wrap .i32 => 31
  | .wrap .i64 => 32
  | .wrap .u8 => 33
  | .wrap .u16 => 34
  | .wrap .u32 => 35
  | .wrap .u64 => 36
  | .byte => 37
  | .llen => 38
def O1.ofCode : Nat → O1
  | 0 => .not
  | 1 => .sqrt
  | 2 => .bits
  | 3 => .nan
  | 4 => .slen
  | 5 => .fst
  | 6 => .snd
  | 7 => .fneg .f32
  | 8 => .fneg .f64
  | 9 => .i2f .f32
  | 10 => .i2f .f64
  | 11 => .ofBits .f32
  | 12 => .ofBits .f64
  | 13 => .fabs .f32
  | 14 => .fabs .f64
  | 15 => .f2i .f32
  | 16 => .f2i .f64
  | 17 => .conv .f32 .f32
  | 18 => .conv .f32 .f64
  | 19 => .conv .f64 .f32
  | 20 => .conv .f64 .f64
  | 21 => .convOk .f32 .f32
  | 22 => .convOk .f32 .f64
  | 23 => .convOk .f64 .f32
  | 24 => .convOk .f64 .f64
  | 25 => .integral .even
  | 26 => .integral .down
  | 27 => .integral .up
  | 28 => .integral .zero
  | 29 => .wrap .i8
  | 30 => .wrap .i16
  | 31 => .wrap .i32
  | 32 => .wrap .i64
  | 33 => .wrap .u8
  | 34 => .wrap .u16
  | 35 => .wrap .u32
  | 36 => .wrap .u64
  | 37 => .byte
  | _ => .llen
theorem O1.ofCode_code (o : O1) : O1.ofCode o.code = o := by
  cases o <;> first | rfl | (rename_i k; cases k <;> rfl) | (rename_i s d; cases s <;> cases d <;> rfl)
theorem O1.code_inj {a b : O1} (h : a.code = b.code) : a = b := by rw [← O1.ofCode_code a, h, O1.ofCode_code]

def O2.code : O2 → Nat
  | .fsame => 0
  | .iadd => 1
  | .isub => 2
  | .imul => 3
  | .itdiv => 4
  | .itmod => 5
  | .ishl => 6
  | .ishr => 7
  | .ieq => 8
  | .ilt => 9
  | .ile => 10
  | .beq => 11
  | .band => 12
  | .bor => 13
  | .sidx => 14
  | .scat => 15
  | .seq => 16
  | .slt => 17
  | .sel => 18
  | .pair => 19
  | .fadd .f32 => 20
  | .fadd .f64 => 21
  | .fsub .f32 => 22
  | .fsub .f64 => 23
  | .fmul .f32 => 24
  | .fmul .f64 => 25
  | .fdiv .f32 => 26
  | .fdiv .f64 => 27
  | .feq .f32 => 28
  | .feq .f64 => 29
  | .flt .f32 => 30
  | .flt .f64 => 31
  | .fle .f32 => 32
  | .fle .f64 => 33
  | .iand .i8 => 34
  | .iand .i16 => 35
  | .iand .i32 => 36
  | .iand .i64 => 37
  | .iand .u8 => 38
  | .iand .u16 => 39
  | .iand .u32 => 40
  | .iand .u64 => 41
  | .ior .i8 => 42
  | .ior .i16 => 43
  | .ior .i32 => 44
  | .ior .i64 => 45
  | .ior .u8 => 46
  | .ior .u16 => 47
  | .ior .u32 => 48
  | .ior .u64 => 49
  | .ixor .i8 => 50
  | .ixor .i16 => 51
  | .ixor .i32 => 52
  | .ixor .i64 => 53
  | .ixor .u8 => 54
  | .ixor .u16 => 55
  | .ixor .u32 => 56
  | .ixor .u64 => 57
  | .iandn .i8 => 58
  | .iandn .i16 => 59
  | .iandn .i32 => 60
  | .iandn .i64 => 61
  | .iandn .u8 => 62
  | .iandn .u16 => 63
  | .iandn .u32 => 64
  | .iandn .u64 => 65
  | .lpush => 66
  | .lrep => 67
  | .lapp => 68
def O2.ofCode : Nat → O2
  | 0 => .fsame
  | 1 => .iadd
  | 2 => .isub
  | 3 => .imul
  | 4 => .itdiv
  | 5 => .itmod
  | 6 => .ishl
  | 7 => .ishr
  | 8 => .ieq
  | 9 => .ilt
  | 10 => .ile
  | 11 => .beq
  | 12 => .band
  | 13 => .bor
  | 14 => .sidx
  | 15 => .scat
  | 16 => .seq
  | 17 => .slt
  | 18 => .sel
  | 19 => .pair
  | 20 => .fadd .f32
  | 21 => .fadd .f64
  | 22 => .fsub .f32
  | 23 => .fsub .f64
  | 24 => .fmul .f32
  | 25 => .fmul .f64
  | 26 => .fdiv .f32
  | 27 => .fdiv .f64
  | 28 => .feq .f32
  | 29 => .feq .f64
  | 30 => .flt .f32
  | 31 => .flt .f64
  | 32 => .fle .f32
  | 33 => .fle .f64
  | 34 => .iand .i8
  | 35 => .iand .i16
  | 36 => .iand .i32
  | 37 => .iand .i64
  | 38 => .iand .u8
  | 39 => .iand .u16
  | 40 => .iand .u32
  | 41 => .iand .u64
  | 42 => .ior .i8
  | 43 => .ior .i16
  | 44 => .ior .i32
  | 45 => .ior .i64
  | 46 => .ior .u8
  | 47 => .ior .u16
  | 48 => .ior .u32
  | 49 => .ior .u64
  | 50 => .ixor .i8
  | 51 => .ixor .i16
  | 52 => .ixor .i32
  | 53 => .ixor .i64
  | 54 => .ixor .u8
  | 55 => .ixor .u16
  | 56 => .ixor .u32
  | 57 => .ixor .u64
  | 58 => .iandn .i8
  | 59 => .iandn .i16
  | 60 => .iandn .i32
  | 61 => .iandn .i64
  | 62 => .iandn .u8
  | 63 => .iandn .u16
  | 64 => .iandn .u32
  | 65 => .iandn .u64
  | 66 => .lpush
  | 67 => .lrep
  | _ => .lapp
theorem O2.ofCode_code (o : O2) : O2.ofCode o.code = o := by
  cases o <;> first | rfl | (rename_i k; cases k <;> rfl) | (rename_i s d; cases s <;> cases d <;> rfl)
theorem O2.code_inj {a b : O2} (h : a.code = b.code) : a = b := by rw [← O2.ofCode_code a, h, O2.ofCode_code]

def O3.code : O3 → Nat
  | .ite => 0
  | .ssub => 1
  | .upd => 2
  | .lsub => 3
def O3.ofCode : Nat → O3
  | 0 => .ite
  | 1 => .ssub
  | 2 => .upd
  | _ => .lsub
theorem O3.ofCode_code (o : O3) : O3.ofCode o.code = o := by
  cases o <;> first | rfl | (rename_i k; cases k <;> rfl) | (rename_i s d; cases s <;> cases d <;> rfl)
theorem O3.code_inj {a b : O3} (h : a.code = b.code) : a = b := by rw [← O3.ofCode_code a, h, O3.ofCode_code]

/-- Expressions: closed words over variables. 'app': a function that a table gives. -/
inductive E where
  | v (n : Nat)
  | b (x : Bool)
  | i (x : Int)
  | f (x : Fl)
  | s (x : List UInt8)
  | o1 (o : O1) (a : E)
  | o2 (o : O2) (a b : E)
  | o3 (o : O3) (a b c : E)
  | app (n : Nat) (a : E)

def O1.ev : O1 → D → D
  | .not, d => .b (!d.toB)
  | .fneg k, d => .f (Fl.neg k d.toF)
  | .sqrt, d => .f (Fl.sqrt d.toF)
  | .conv s k, d => .f (Fl.conv s k d.toF)
  | .convOk s k, d => .b (Fl.convOk s k d.toF)
  | .i2f k, d => .f (some (k.nearest d.toI))
  | .bits, d => .i (Fl.bits d.toF)
  | .ofBits k, d => .f (Fl.ofBits k d.toI)
  | .nan, d => .b d.toF.isNone
  | .wrap k, d => .i (k.wrap d.toI)
  | .slen, d => .i d.toS.size
  | .integral w, d => .f (Fl.integral w d.toF)
  | .fst, d => d.fst
  | .snd, d => d.snd
  | .fabs k, d => .f (Fl.abs k d.toF)
  | .f2i k, d => .i (Fl.toInt k d.toF)
  | .byte, d => .s ⟨#[UInt8.ofNat d.toI.toNat]⟩
  | .llen, d => .i d.toL.length

def O2.ev : O2 → D → D → D
  | .fadd k, x, y => .f (Fl.add k x.toF y.toF)
  | .fsub k, x, y => .f (Fl.sub k x.toF y.toF)
  | .fmul k, x, y => .f (Fl.mul k x.toF y.toF)
  | .fdiv k, x, y => .f (Fl.div k x.toF y.toF)
  | .feq k, x, y => .b (Fl.eq k x.toF y.toF)
  | .flt k, x, y => .b (Fl.lt k x.toF y.toF)
  | .fle k, x, y => .b (Fl.le k x.toF y.toF)
  | .fsame, x, y => .b (x.toF == y.toF)
  | .iadd, x, y => .i (x.toI + y.toI)
  | .isub, x, y => .i (x.toI - y.toI)
  | .imul, x, y => .i (x.toI * y.toI)
  | .itdiv, x, y => .i (x.toI.tdiv y.toI)
  | .itmod, x, y => .i (x.toI.tmod y.toI)
  | .ishl, x, y => .i (x.toI * 2 ^ y.toI.toNat)
  | .ishr, x, y => .i (x.toI.fdiv (2 ^ y.toI.toNat))
  | .iand k, x, y => .i (k.wrap (BitVec.ofInt k.bits x.toI &&& BitVec.ofInt k.bits y.toI).toNat)
  | .ior k, x, y => .i (k.wrap (BitVec.ofInt k.bits x.toI ||| BitVec.ofInt k.bits y.toI).toNat)
  | .ixor k, x, y => .i (k.wrap (BitVec.ofInt k.bits x.toI ^^^ BitVec.ofInt k.bits y.toI).toNat)
  | .iandn k, x, y => .i (k.wrap (BitVec.ofInt k.bits x.toI &&& ~~~ BitVec.ofInt k.bits y.toI).toNat)
  | .ieq, x, y => .b (x.toI == y.toI)
  | .ilt, x, y => .b (decide (x.toI < y.toI))
  | .ile, x, y => .b (decide (x.toI ≤ y.toI))
  | .beq, x, y => .b (x.toB == y.toB)
  | .band, x, y => .b (x.toB && y.toB)
  | .bor, x, y => .b (x.toB || y.toB)
  | .sidx, x, y => .i ((x.toS.data[y.toI.toNat]?.getD 0).toNat)
  | .scat, x, y => .s (x.toS ++ y.toS)
  | .seq, x, y => .b (x.toS.toList == y.toS.toList)
  | .slt, x, y => .b (Op.bytesLess x.toS.toList y.toS.toList)
  | .sel, x, y => x.at_ y.toI.toNat
  | .pair, x, y => .p x y
  | .lpush, x, y => .l (x.toL ++ [y])
  | .lrep, n, x => .l (List.replicate n.toI.toNat x)
  | .lapp, x, y => .l (x.toL ++ y.toL)

def O3.ev : O3 → D → D → D → D
  | .ite, c, x, y => if c.toB then x else y
  | .ssub, x, l, h => .s (x.toS.extract l.toI.toNat h.toI.toNat)
  | .upd, x, j, y => .l (x.toL.set j.toI.toNat y)
  | .lsub, x, l, h => .l ((x.toL.drop l.toI.toNat).take (h.toI.toNat - l.toI.toNat))

namespace E
variable (U : Nat → D → D)

def ev (r : Nat → D) : E → D
  | .v n => r n
  | .b x => .b x
  | .i x => .i x
  | .f x => .f x
  | .s x => .s ⟨x.toArray⟩
  | .o1 o x => o.ev (ev r x)
  | .o2 o x y => o.ev (ev r x) (ev r y)
  | .o3 o x y z => o.ev (ev r x) (ev r y) (ev r z)
  | .app n x => U n (ev r x)

/-- Whether two expressions are the same to the letter. -/
def same : E → E → Bool
  | .v n, .v m => Nat.beq n m
  | .b x, .b y => x == y
  | .i x, .i y => x == y
  | .f x, .f y => (match x, y with
    | some n, some m => Nat.beq n m
    | none, none => true
    | _, _ => false)
  | .s x, .s y => x == y
  | .o1 o x, .o1 o' x' => bif Nat.beq o.code o'.code then same x x' else false
  | .o2 o x y, .o2 o' x' y' => bif Nat.beq o.code o'.code then bif same x x' then same y y' else false else false
  | .o3 o x y z, .o3 o' x' y' z' => bif Nat.beq o.code o'.code then bif same x x' then bif same y y' then same z z' else false else false else false
  | .app n x, .app m x' => bif Nat.beq n m then same x x' else false
  | _, _ => false

theorem same_eq : ∀ {x y : E}, same x y = true → x = y := by
  intro x
  induction x with
  | v n => intro y h; cases y <;> simp [same] at h; rw [h]
  | b n => intro y h; cases y <;> simp_all [same]
  | i n => intro y h; cases y <;> simp_all [same]
  | f n => intro y h; cases y with
    | f m => cases n <;> cases m <;> simp [same] at h <;> simp [h]
    | _ => simp [same] at h
  | s n => intro y h; cases y <;> simp_all [same]
  | o1 o x ih => intro y h; cases y <;> simp [same] at h; rw [O1.code_inj h.1, ih h.2]
  | o2 o x y iha ihb => intro y h; cases y <;> simp [same] at h; rw [O2.code_inj h.1, iha h.2.1, ihb h.2.2]
  | o3 o x y z iha ihb ihc => intro y h; cases y <;> simp [same] at h; rw [O3.code_inj h.1, iha h.2.1, ihb h.2.2.1, ihc h.2.2.2]
  | app n x ih => intro y h; cases y <;> simp [same] at h; rw [h.1, ih h.2]

/-- All variables are below a number. -/
def under (m : Nat) : E → Bool
  | .v n => decide (n < m)
  | .b _ | .i _ | .f _ | .s _ => true
  | .o1 _ x | .app _ x => under m x
  | .o2 _ x y => under m x && under m y
  | .o3 _ x y z => under m x && (under m y && under m z)

theorem ev_under {m : Nat} {r r' : Nat → D} (hr : ∀ n, n < m → r' n = r n) : ∀ {e : E}, under m e = true → e.ev U r' = e.ev U r := by
  intro e
  induction e with
  | v n => intro h; simp [under] at h; exact hr _ h
  | b n => intro _; rfl
  | i n => intro _; rfl
  | f n => intro _; rfl
  | s n => intro _; rfl
  | o1 o x ih => intro h; simp only [ev, ih h]
  | app n x ih => intro h; simp only [ev]; rw [ih h]
  | o2 o x y iha ihb => intro h; simp [under] at h; simp only [ev, iha h.1, ihb h.2]
  | o3 o x y z iha ihb ihc => intro h; simp [under] at h; simp only [ev, iha h.1, ihb h.2.1, ihc h.2.2]

/-- The value of a literal. -/
def lit? : E → Option D
  | .b x => some (.b x)
  | .i x => some (.i x)
  | .f x => some (.f x)
  | .s x => some (.s ⟨x.toArray⟩)
  | _ => none

theorem lit?_ev {e : E} {d : D} (h : e.lit? = some d) (r : Nat → D) : e.ev U r = d := by
  cases e <;> simp [lit?] at h <;> subst h <;> rfl

/-- A value as a literal, where it is a plain one. -/
def ofD? : D → Option E
  | .b x => some (.b x)
  | .i x => some (.i x)
  | .f x => some (.f x)
  | .s x => some (.s x.data.toList)
  | _ => none

theorem ofD?_ev {e : E} {d : D} (h : ofD? d = some e) (r : Nat → D) : e.ev U r = d := by
  cases d <;> simp [ofD?] at h <;> subst h <;> simp [ev]

/-- The elements of a row that is written out. -/
def listE : E → Option (List E)
  | .o2 .lrep (.i 0) _ => some []
  | .o2 .lpush x y => match listE x with
    | some l => some (l ++ [y])
    | none => none
  | _ => none

theorem listE_ev (r : Nat → D) : ∀ {e : E} {l : List E}, listE e = some l → e.ev U r = .l (l.map fun x => x.ev U r) := by
  intro e
  induction e with
  | o2 o x y ihx _ =>
    intro l h
    unfold listE at h
    split at h
    · rename_i h'; cases h'; cases h; simp [ev, O2.ev, D.toI]
    · rename_i h'; cases h'
      split at h
      · rename_i l' hl; cases h; simp only [ev, O2.ev, ihx hl, D.toL_l, List.map_append, List.map_cons, List.map_nil]
      · cases h
    · cases h
  | _ => intro l h; simp [listE] at h

/-- The bytes of a text that is written out byte by byte. -/
def flatE : E → Option (List E)
  | .s l => some (l.map fun b => .i b.toNat)
  | .o1 .byte e => some [e]
  | .o2 .scat x y => match flatE x, flatE y with
    | some l, some m => some (l ++ m)
    | _, _ => none
  | _ => none

/-- The length of such a text. -/
def lenE : E → Option Nat
  | .s l => some l.length
  | .o1 .byte _ => some 1
  | .o2 .scat x y => match lenE x, lenE y with
    | some l, some m => some (l + m)
    | _, _ => none
  | _ => none

def sameAll : List E → List E → Bool
  | [], [] => true
  | x :: l, y :: m => bif same x y then sameAll l m else false
  | _, _ => false

theorem sameAll_eq : ∀ {l m : List E}, sameAll l m = true → l = m := by
  intro l
  induction l with
  | nil => intro m h; cases m <;> simp_all [sameAll]
  | cons x l ih =>
    intro m h
    cases m with
    | nil => simp [sameAll] at h
    | cons y m =>
      unfold sameAll at h
      cases hs : same x y with
      | true => rw [hs] at h; rw [same_eq hs, ih h]
      | false => rw [hs] at h; cases h

def byteOf (r : Nat → D) (e : E) : UInt8 := UInt8.ofNat (e.ev U r).toI.toNat

theorem flatE_ev (r : Nat → D) : ∀ {e : E} {l : List E}, flatE e = some l → (e.ev U r).toS.data.toList = l.map (byteOf U r) := by
  intro e
  induction e with
  | s x =>
    intro l h
    simp only [flatE, Option.some.injEq] at h
    subst h
    simp only [ev, D.toS_s, List.map_map]
    rw [show (byteOf U r ∘ fun b : UInt8 => E.i (b.toNat : Int)) = id from ?_]
    · simp
    · funext b; simp [byteOf, ev, D.toI]
  | o1 o x _ =>
    intro l h
    cases o <;> simp [flatE] at h
    subst h
    simp [ev, O1.ev, D.toS, byteOf]
  | o2 o x y ihx ihy =>
    intro l h
    cases o <;> simp only [flatE] at h <;> first | cases h | skip
    split at h
    · rename_i a b ha hb
      cases h
      simp only [ev, O2.ev, D.toS_s, List.map_append, ← ihx ha, ← ihy hb]
      simp [ByteArray.data_append]
    · cases h
  | _ => intro l h; simp [flatE] at h

theorem lenE_ev (r : Nat → D) : ∀ {e : E} {n : Nat}, lenE e = some n → (e.ev U r).toS.size = n := by
  intro e
  induction e with
  | s x =>
    intro n h
    simp only [lenE, Option.some.injEq] at h
    subst h
    simp [ev, D.toS_s, ByteArray.size]
  | o1 o x _ =>
    intro n h
    cases o <;> simp [lenE] at h
    subst h
    simp [ev, O1.ev, D.toS, ByteArray.size]
  | o2 o x y ihx ihy =>
    intro n h
    cases o <;> simp only [lenE] at h <;> first | cases h | skip
    split at h
    · rename_i a b ha hb
      cases h
      simp only [ev, O2.ev, D.toS_s, ByteArray.size_append, ihx ha, ihy hb]
    · cases h
  | _ => intro n h; simp [lenE] at h

/-- Texts that are written out: what is to be said of their sameness. -/
def seqRule (x y : E) : E :=
  if same x y then .b true else
  match flatE x, flatE y with
  | some l, some m => if l.length = m.length then (if sameAll l m then .b true else .o2 .seq x y) else .b false
  | _, _ => .o2 .seq x y

theorem seqRule_ev (x y : E) (r : Nat → D) : (seqRule x y).ev U r = O2.seq.ev (x.ev U r) (y.ev U r) := by
  unfold seqRule
  split
  · rename_i h; rw [same_eq h]; simp [ev, O2.ev]
  · split
    · rename_i l m hl hm
      have h1 := flatE_ev U r hl
      have h2 := flatE_ev U r hm
      have key : O2.seq.ev (x.ev U r) (y.ev U r) = .b (l.map (byteOf U r) == m.map (byteOf U r)) := by
        simp only [O2.ev, Go.ByteArray.toList_eq, h1, h2]
      split
      · split
        · rename_i h; rw [key, sameAll_eq h]; simp [ev]
        · rfl
      · rename_i hne
        rw [key]
        have : (l.map (byteOf U r) == m.map (byteOf U r)) = false := by
          rw [beq_eq_false_iff_ne]
          intro h
          exact hne (by simpa using congrArg List.length h)
        rw [this]; rfl
    · rfl

theorem iand_range (k : IntKind) (x n : Int) (h0 : 0 ≤ n) (h1 : n < 128) : 0 ≤ k.wrap (BitVec.ofInt k.bits x &&& BitVec.ofInt k.bits n).toNat ∧ k.wrap (BitVec.ofInt k.bits x &&& BitVec.ofInt k.bits n).toNat ≤ n := by
  have hn : (BitVec.ofInt k.bits n).toNat ≤ n.toNat := by
    rw [BitVec.toNat_ofInt]
    have : n % ((2 ^ k.bits : Nat) : Int) ≤ n := by
      rw [Int.emod_def]
      have h2 : 0 ≤ n / ((2 ^ k.bits : Nat) : Int) := Int.ediv_nonneg h0 (Int.natCast_nonneg _)
      have h3 := Int.mul_nonneg (Int.natCast_nonneg (2 ^ k.bits)) h2
      omega
    omega
  have hle : (BitVec.ofInt k.bits x &&& BitVec.ofInt k.bits n).toNat ≤ n.toNat := by
    rw [BitVec.toNat_and]
    exact Nat.le_trans Nat.and_le_right hn
  generalize (BitVec.ofInt k.bits x &&& BitVec.ofInt k.bits n).toNat = m at hle
  have hm : (m : Int) < 128 := by omega
  have hw : k.wrap (m : Int) = m := by
    unfold IntKind.wrap
    cases k <;> simp [IntKind.bits, IntKind.signed] <;> omega
  rw [hw]
  omega

/-- How many elements a row has. -/
def llenE : E → E
  | .o2 .lrep (.o1 .llen x) _ => .o1 .llen x
  | .o3 .upd x _ _ => llenE x
  | .o3 .lsub (.o2 .lapp w (.o2 .lrep (.o1 .llen x) z)) (.i 0) (.o1 .llen y) => if x.same y then .o1 .llen x else .o1 .llen (.o3 .lsub (.o2 .lapp w (.o2 .lrep (.o1 .llen x) z)) (.i 0) (.o1 .llen y))
  | x => match listE x with
    | some l => .i l.length
    | none => .o1 .llen x

theorem llenE_ev (x : E) (r : Nat → D) : (llenE x).ev U r = O1.llen.ev (x.ev U r) := by
  fun_induction llenE x with
  | case1 x _ => simp [ev, O1.ev, O2.ev, D.toI, D.toL]
  | case2 x _ _ ih => simp only [ev, O1.ev, O3.ev, D.toL_l, List.length_set] at ih ⊢; exact ih
  | case3 w x z y hs =>
    rw [same_eq hs]
    simp only [ev, O1.ev, O2.ev, O3.ev, D.toI, D.toL, Int.toNat_zero, List.drop_zero, Nat.sub_zero, Int.toNat_natCast, List.length_take, List.length_append, List.length_replicate]
    congr 2
    omega
  | case4 w x z y hs => rfl
  | case5 x _ _ _ l h => simp only [ev, O1.ev, listE_ev U r h, D.toL_l, List.length_map]
  | case6 x _ _ _ h => rfl

/-- An operation of one operand: reckoned at a literal. -/
def rule1 (o : O1) (x : E) : E :=
  match o, x with
  | .not, .o1 .not (.o2 .fsame p q) => .o2 .fsame p q
  | .not, .o1 .not (.o2 (.feq k) p q) => .o2 (.feq k) p q
  | .not, .o1 .not (.o2 (.flt k) p q) => .o2 (.flt k) p q
  | .not, .o1 .not (.o2 (.fle k) p q) => .o2 (.fle k) p q
  | .not, .o1 .not (.o2 .ieq p q) => .o2 .ieq p q
  | .not, .o1 .not (.o2 .ilt p q) => .o2 .ilt p q
  | .not, .o1 .not (.o2 .ile p q) => .o2 .ile p q
  | .not, .o1 .not (.o1 .nan p) => .o1 .nan p
  | .fst, .o2 .pair p _ => p
  | .snd, .o2 .pair _ q => q
  | .slen, x => match lenE x with
    | some n => .i n
    | none => .o1 .slen x
  | .llen, .o3 .upd x _ _ => llenE x
  | .llen, x => llenE x
  | o, x => .o1 o x

theorem rule1_ev (o : O1) (x : E) (r : Nat → D) : (rule1 o x).ev U r = o.ev (x.ev U r) := by
  unfold rule1
  split
  case h_11 =>
    split
    · rename_i n h; simp only [ev, O1.ev, lenE_ev U r h]
    · rfl
  case h_12 => rw [llenE_ev]; simp only [ev, O1.ev, O3.ev, D.toL_l, List.length_set]
  case h_13 => rw [llenE_ev]
  all_goals simp [ev, O1.ev, O2.ev, D.toB, D.fst, D.snd]

def mk1 (o : O1) (x : E) : E :=
  match x.lit? with
  | some d => (ofD? (o.ev d)).getD (.o1 o x)
  | none => rule1 o x

theorem mk1_ev (o : O1) (x : E) (r : Nat → D) : (mk1 o x).ev U r = o.ev (x.ev U r) := by
  unfold mk1
  split
  · rename_i d h
    rw [lit?_ev U h r]
    cases h' : ofD? (o.ev d) with
    | none => show (E.o1 o x).ev U r = _; simp only [ev, lit?_ev U h r]
    | some e => exact ofD?_ev U h' r
  · exact rule1_ev U o x r

/-- An element of a row that is written out. -/
def selRule (x y : E) : E :=
  match y with
  | .i (.ofNat n) => (match listE x with
    | some l => (match l[n]? with
      | some e => e
      | none => .o2 .sel x y)
    | none => .o2 .sel x y)
  | _ => .o2 .sel x y

theorem selRule_ev (x y : E) (r : Nat → D) : (selRule x y).ev U r = O2.sel.ev (x.ev U r) (y.ev U r) := by
  unfold selRule
  split
  · rename_i n
    split
    · rename_i l hl
      split
      · rename_i e he
        simp only [O2.ev, ev, D.toI_i, D.at_, listE_ev U r hl, D.toL_l]
        show _ = (l.map fun x => x.ev U r).getD n _
        rw [List.getD_eq_getElem?_getD, List.getElem?_map, he]; rfl
      · rfl
    · rfl
  · rfl

/-- Surely a truth. -/
def isTruth : E → Bool
  | .o1 o _ => (match o with
    | .not | .nan => true
    | _ => false)
  | .o2 o _ _ => (match o with
    | .feq _ | .flt _ | .fle _ | .fsame | .ieq | .ilt | .ile | .beq | .band | .bor | .seq | .slt => true
    | _ => false)
  | _ => false
theorem isTruth_ev {e : E} (h : isTruth e = true) (r : Nat → D) : e.ev U r = .b (e.ev U r).toB := by
  unfold isTruth at h
  split at h
  · split at h <;> first | rfl | cases h
  · split at h <;> first | rfl | cases h
  · cases h
def beqRule (x y : E) : E :=
  match y with
  | .b true => if isTruth x then x else .o2 .beq x y
  | .b false => if isTruth x then rule1 .not x else .o2 .beq x y
  | _ => .o2 .beq x y
theorem beqRule_ev (x y : E) (r : Nat → D) : (beqRule x y).ev U r = O2.beq.ev (x.ev U r) (y.ev U r) := by
  unfold beqRule
  split
  · split
    · rename_i h
      rw [isTruth_ev U h r]
      simp only [O2.ev, ev, D.toB_b]
      cases (x.ev U r).toB <;> rfl
    · rfl
  · split
    · rename_i h
      rw [rule1_ev]
      simp only [O1.ev, O2.ev, ev, D.toB_b]
      cases (x.ev U r).toB <;> rfl
    · rfl
  · rfl
/-- An operation of two operands: two of the same. -/
def rule2 (o : O2) (x y : E) : E :=
  match o with
  | .fsame => if same x y then .b true else .o2 .fsame x y
  | .ieq => if same x y then .b true else .o2 .ieq x y
  | .beq => if same x y then .b true else beqRule x y
  | .seq => seqRule x y
  | .sel => selRule x y
  | .ilt => (match x, y with
    | .o2 (.iand _) _ (.i n), .i m => if 0 ≤ n ∧ n < 128 ∧ n < m then .b true else .o2 .ilt x y
    | _, _ => .o2 .ilt x y)
  | .ile => (match x, y with
    | .i m, .o2 (.iand _) _ (.i n) => if 0 ≤ n ∧ n < 128 ∧ m ≤ 0 then .b true else .o2 .ile x y
    | _, _ => .o2 .ile x y)
  | o => .o2 o x y

theorem rule2_ev (o : O2) (x y : E) (r : Nat → D) : (rule2 o x y).ev U r = o.ev (x.ev U r) (y.ev U r) := by
  unfold rule2
  split
  · split
    · rename_i h; rw [same_eq h]; simp [ev, O2.ev]
    · rfl
  · split
    · rename_i h; rw [same_eq h]; simp [ev, O2.ev]
    · rfl
  · split
    · rename_i h; rw [same_eq h]; simp [ev, O2.ev]
    · exact beqRule_ev U x y r
  · exact seqRule_ev U x y r
  · exact selRule_ev U x y r
  · split
    · rename_i k z n m
      split
      · rename_i h
        have := iand_range k (z.ev U r).toI n h.1 h.2.1
        refine congrArg D.b (decide_eq_true ?_).symm
        exact Int.lt_of_le_of_lt this.2 h.2.2
      · rfl
    · rfl
  · split
    · rename_i m k z n
      split
      · rename_i h
        have := iand_range k (z.ev U r).toI n h.1 h.2.1
        refine congrArg D.b (decide_eq_true ?_).symm
        exact Int.le_trans h.2.2 this.1
      · rfl
    · rfl
  · rfl

/-- An operation of two operands: reckoned at literals. -/
def mk2 (o : O2) (x y : E) : E :=
  match x.lit?, y.lit? with
  | some d, some d' => (ofD? (o.ev d d')).getD (.o2 o x y)
  | _, _ => rule2 o x y

theorem mk2_ev (o : O2) (x y : E) (r : Nat → D) : (mk2 o x y).ev U r = o.ev (x.ev U r) (y.ev U r) := by
  unfold mk2
  split
  · rename_i d d' h h'
    rw [lit?_ev U h r, lit?_ev U h' r]
    cases h'' : ofD? (o.ev d d') with
    | none => show (E.o2 o x y).ev U r = _; simp only [ev, lit?_ev U h r, lit?_ev U h' r]
    | some e => exact ofD?_ev U h'' r
  · exact rule2_ev U o x y r

/-- A choice. -/
def mkIte (c x y : E) : E :=
  match c with
  | .b true => x
  | .b false => y
  | c => .o3 .ite c x y

theorem mkIte_ev (c x y : E) (r : Nat → D) : (mkIte c x y).ev U r = if (c.ev U r).toB then x.ev U r else y.ev U r := by
  unfold mkIte
  split <;> rfl

end E
end Go.Sx

/-
  Sx, part Al: whole numbers: what follows from what a way has met, by sums.
-/
namespace Go.Sx
open E (mk1 mk2 mkIte mk1_ev mk2_ev mkIte_ev)

/-- The truths that a way has met. -/
def PcOk (U : Nat → D → D) (r : Nat → D) (pc : List (E × Bool)) : Prop := ∀ x ∈ pc, (x.1.ev U r).toB = x.2

/-- A sum: a number, and words with how often each is taken. -/
structure Lin where
  c : Int
  ts : List (E × Int)

def addT (e : E) (k : Int) : List (E × Int) → List (E × Int)
  | [] => [(e, k)]
  | (x, j) :: l => if x.same e then (if j + k = 0 then l else (x, j + k) :: l) else (x, j) :: addT e k l

def addTs : List (E × Int) → List (E × Int) → List (E × Int)
  | [], m => m
  | (x, k) :: l, m => addTs l (addT x k m)

def Lin.add (a b : Lin) : Lin := ⟨a.c + b.c, addTs a.ts b.ts⟩
def Lin.mul (n : Int) (a : Lin) : Lin := if n = 0 then ⟨0, []⟩ else ⟨n * a.c, a.ts.map fun t => (t.1, n * t.2)⟩
def Lin.sub (a b : Lin) : Lin := a.add (Lin.mul (-1) b)

/-- The length of a text that is put together. -/
def slenL : E → Lin
  | .s l => ⟨l.length, []⟩
  | .o1 o x => match o with
    | .byte => ⟨1, []⟩
    | o => ⟨0, [(.o1 .slen (.o1 o x), 1)]⟩
  | .o2 o x y => match o with
    | .scat => (slenL x).add (slenL y)
    | o => ⟨0, [(.o1 .slen (.o2 o x y), 1)]⟩
  | e => ⟨0, [(.o1 .slen e, 1)]⟩
def linE : E → Lin
  | .i n => ⟨n, []⟩
  | .o1 o x => match o with
    | .slen => slenL x
    | o => ⟨0, [(.o1 o x, 1)]⟩
  | .o2 o x y => match o with
    | .iadd => (linE x).add (linE y)
    | .isub => (linE x).sub (linE y)
    | .imul => (match x, y with
      | .i n, y => Lin.mul n (linE y)
      | x, .i n => Lin.mul n (linE x)
      | x, y => ⟨0, [(.o2 .imul x y, 1)]⟩)
    | o => ⟨0, [(.o2 o x y, 1)]⟩
  | e => ⟨0, [(e, 1)]⟩

section
variable (U : Nat → D → D) (r : Nat → D)
def evTs : List (E × Int) → Int
  | [] => 0
  | (e, k) :: l => k * (e.ev U r).toI + evTs l
def Lin.ev (a : Lin) : Int := a.c + evTs U r a.ts
end

section
variable {U : Nat → D → D} {r : Nat → D}

theorem addT_ev (e : E) (k : Int) : ∀ l : List (E × Int), evTs U r (addT e k l) = k * (e.ev U r).toI + evTs U r l := by
  intro l
  induction l with
  | nil => simp [addT, evTs]
  | cons a l ih =>
    obtain ⟨x, j⟩ := a
    unfold addT
    split
    · rename_i hs
      rw [E.same_eq hs]
      split
      · rename_i h0
        have : j = -k := by omega
        subst this
        simp only [evTs, Int.neg_mul]; omega
      · simp only [evTs, Int.add_mul]; omega
    · simp only [evTs, ih]; omega

theorem addTs_ev : ∀ l m : List (E × Int), evTs U r (addTs l m) = evTs U r l + evTs U r m := by
  intro l
  induction l with
  | nil => intro m; simp [addTs, evTs]
  | cons a l ih => intro m; obtain ⟨x, k⟩ := a; simp only [addTs, ih, addT_ev, evTs]; omega

theorem Lin.add_ev (a b : Lin) : (a.add b).ev U r = a.ev U r + b.ev U r := by
  simp only [Lin.add, Lin.ev, addTs_ev]; omega

theorem mulTs_ev (n : Int) : ∀ l : List (E × Int), evTs U r (l.map fun t => (t.1, n * t.2)) = n * evTs U r l := by
  intro l
  induction l with
  | nil => simp [evTs]
  | cons a l ih => obtain ⟨x, k⟩ := a; simp only [List.map_cons, evTs, ih, Int.mul_add, Int.mul_assoc]

theorem Lin.mul_ev (n : Int) (a : Lin) : (Lin.mul n a).ev U r = n * a.ev U r := by
  unfold Lin.mul
  split
  · rename_i h; subst h; simp [Lin.ev, evTs]
  · simp only [Lin.ev, mulTs_ev, Int.mul_add]

theorem Lin.sub_ev (a b : Lin) : (a.sub b).ev U r = a.ev U r - b.ev U r := by
  simp only [Lin.sub, Lin.add_ev, Lin.mul_ev]; omega

theorem slenL_ev : ∀ e : E, (slenL e).ev U r = (((e.ev U r).toS.size : Nat) : Int) := by
  intro e
  have plain : ∀ x : E, Lin.ev U r ⟨0, [(.o1 .slen x, 1)]⟩ = (((x.ev U r).toS.size : Nat) : Int) := fun x => by
    have : ((E.o1 .slen x).ev U r).toI = (((x.ev U r).toS.size : Nat) : Int) := rfl
    simp [Lin.ev, evTs, this]
  induction e with
  | s l => simp [slenL, Lin.ev, evTs, E.ev, D.toS, ByteArray.size]
  | o1 o x ih =>
    cases o with
    | byte =>
      show (1 : Int) + 0 = _
      rfl
    | _ => exact plain _
  | o2 o x y ihx ihy =>
    cases o with
    | scat =>
      show ((slenL x).add (slenL y)).ev U r = ((((x.ev U r).toS ++ (y.ev U r).toS).size : Nat) : Int)
      rw [Lin.add_ev, ihx, ihy, ByteArray.size_append]
      omega
    | _ => exact plain _
  | _ => exact plain _

theorem linE_ev : ∀ e : E, (linE e).ev U r = (e.ev U r).toI := by
  intro e
  induction e with
  | o1 o x ih =>
    cases o with
    | slen => exact slenL_ev x
    | _ => simp [linE, Lin.ev, evTs]
  | i n => simp [linE, Lin.ev, evTs, E.ev, D.toI]
  | o2 o x y ihx ihy =>
    cases o with
    | iadd => simp only [linE, Lin.add_ev, ihx, ihy, E.ev, O2.ev, D.toI_i]
    | isub => simp only [linE, Lin.sub_ev, ihx, ihy, E.ev, O2.ev, D.toI_i]
    | imul =>
      unfold linE
      dsimp only
      split
      · rename_i n y; simp only [Lin.mul_ev, ihy, E.ev, O2.ev, D.toI_i]
      · rename_i n h1 h2; simp only [Lin.mul_ev, ihx, E.ev, O2.ev, D.toI_i, Int.mul_comm]
      · simp [Lin.ev, evTs]
    | _ => simp [linE, Lin.ev, evTs]
  | _ => simp [linE, Lin.ev, evTs]

/-- Sums that are not above 0, from what a way has met. -/
def factsOf : List (E × Bool) → List Lin
  | [] => []
  | (.o2 o x y, b) :: l => match o, b with
    | .ilt, true => ((linE x).sub (linE y)).add ⟨1, []⟩ :: factsOf l
    | .ilt, false => (linE y).sub (linE x) :: factsOf l
    | .ile, true => (linE x).sub (linE y) :: factsOf l
    | .ile, false => ((linE y).sub (linE x)).add ⟨1, []⟩ :: factsOf l
    | .ieq, true => (linE x).sub (linE y) :: (linE y).sub (linE x) :: factsOf l
    | .ieq, false => (match x, y with
      | .o1 .llen z, .i 0 => Lin.sub ⟨1, []⟩ (linE (.o1 .llen z)) :: factsOf l
      | _, _ => factsOf l)
    | _, _ => factsOf l
  | _ :: l => factsOf l

theorem factsOf_ok : ∀ {pc : List (E × Bool)}, PcOk U r pc → ∀ F ∈ factsOf pc, F.ev U r ≤ 0 := by
  intro pc
  induction pc with
  | nil => intro _ F hF; simp [factsOf] at hF
  | cons a l ih =>
    intro hp F hF
    have hl := ih (fun y hy => hp y (by simp [hy]))
    have h0 := hp a (by simp)
    obtain ⟨e, b⟩ := a
    cases e with
    | o2 o x y =>
      unfold factsOf at hF
      split at hF
      · rcases List.mem_cons.1 hF with rfl | hF
        · simp only [E.ev, O2.ev, D.toB_b, decide_eq_true_eq] at h0
          simp only [Lin.add_ev, Lin.sub_ev, linE_ev]; simp only [Lin.ev, evTs]; omega
        · exact hl F hF
      · rcases List.mem_cons.1 hF with rfl | hF
        · simp only [E.ev, O2.ev, D.toB_b, decide_eq_false_iff_not] at h0
          simp only [Lin.sub_ev, linE_ev]; omega
        · exact hl F hF
      · rcases List.mem_cons.1 hF with rfl | hF
        · simp only [E.ev, O2.ev, D.toB_b, decide_eq_true_eq] at h0
          simp only [Lin.sub_ev, linE_ev]; omega
        · exact hl F hF
      · rcases List.mem_cons.1 hF with rfl | hF
        · simp only [E.ev, O2.ev, D.toB_b, decide_eq_false_iff_not] at h0
          simp only [Lin.add_ev, Lin.sub_ev, linE_ev]; simp only [Lin.ev, evTs]; omega
        · exact hl F hF
      · have h0 : (x.ev U r).toI = (y.ev U r).toI := by simpa [E.ev, O2.ev, D.toB_b] using h0
        rcases List.mem_cons.1 hF with rfl | hF
        · simp only [Lin.sub_ev, linE_ev]; omega
        · rcases List.mem_cons.1 hF with rfl | hF
          · simp only [Lin.sub_ev, linE_ev]; omega
          · exact hl F hF
      · split at hF
        · rename_i z
          rcases List.mem_cons.1 hF with rfl | hF
          · have h0 : ((E.o1 .llen z).ev U r).toI ≠ 0 := by simpa [E.ev, O2.ev, D.toB_b, D.toI_i] using h0
            have h1 : 0 ≤ ((E.o1 .llen z).ev U r).toI := by
              show (0 : Int) ≤ (((z.ev U r).toL.length : Nat) : Int)
              omega
            simp only [Lin.sub_ev, linE_ev]
            simp only [Lin.ev, evTs]
            omega
          · exact hl F hF
        · exact hl F hF
      · exact hl F hF
    | _ => simp only [factsOf] at hF; exact hl F hF

def loOf (k : IntKind) : Int := if k.signed then -(2 ^ (k.bits - 1)) else 0
def hiOf (k : IntKind) : Int := if k.signed then 2 ^ (k.bits - 1) - 1 else 2 ^ k.bits - 1

theorem wrap_in {k : IntKind} {x : Int} (h0 : loOf k ≤ x) (h1 : x ≤ hiOf k) : k.wrap x = x := by
  unfold loOf at h0
  unfold hiOf at h1
  unfold IntKind.wrap
  cases k <;> simp [IntKind.bits, IntKind.signed] at h0 h1 ⊢ <;> omega

theorem wrap_range (k : IntKind) (x : Int) : loOf k ≤ k.wrap x ∧ k.wrap x ≤ hiOf k := by
  unfold loOf hiOf IntKind.wrap
  cases k <;> simp [IntKind.bits, IntKind.signed] <;> omega

/-- Between which numbers a word is. -/
def rngE : E → Option Int × Option Int
  | .i n => (some n, some n)
  | .o1 o x => match o with
    | .llen => (some 0, none)
    | .slen => (match x with
      | .o3 .ssub _ (.i 0) (.i b) => (some 0, if 0 ≤ b then some b else none)
      | _ => (some 0, none))
    | .wrap k => (match rngE x with
      | (some l, some u) => if loOf k ≤ l ∧ u ≤ hiOf k then (some l, some u) else (some (loOf k), some (hiOf k))
      | _ => (some (loOf k), some (hiOf k)))
    | _ => (none, none)
  | .o2 o x y => match o with
    | .sidx => (some 0, some 255)
    | .iadd => (match rngE x, rngE y with
      | (a, b), (c, d) => (a.bind fun a => c.map fun c => a + c, b.bind fun b => d.map fun d => b + d))
    | .imul => (match y with
      | .i n => if 0 ≤ n then ((rngE x).1.map (· * n), (rngE x).2.map (· * n)) else (none, none)
      | _ => (none, none))
    | .itmod => (match y with
      | .i n => if 0 < n then (match (rngE x).1 with
        | some l => if 0 ≤ l then (some 0, some (n - 1)) else (some (-n), some (n - 1))
        | none => (some (-n), some (n - 1))) else (none, none)
      | _ => (none, none))
    | .iand k => (match y with
      | .i n => if 0 ≤ n ∧ n ≤ hiOf k then (some 0, some n) else (none, none)
      | _ => (none, none))
    | _ => (none, none)
  | _ => (none, none)

theorem iand_in (k : IntKind) (x n : Int) (h0 : 0 ≤ n) (h1 : n ≤ hiOf k) : 0 ≤ k.wrap (BitVec.ofInt k.bits x &&& BitVec.ofInt k.bits n).toNat ∧ k.wrap (BitVec.ofInt k.bits x &&& BitVec.ofInt k.bits n).toNat ≤ n := by
  have hn : (BitVec.ofInt k.bits n).toNat ≤ n.toNat := by
    rw [BitVec.toNat_ofInt]
    have : n % ((2 ^ k.bits : Nat) : Int) ≤ n := by
      rw [Int.emod_def]
      have h2 : 0 ≤ n / ((2 ^ k.bits : Nat) : Int) := Int.ediv_nonneg h0 (Int.natCast_nonneg _)
      have h3 := Int.mul_nonneg (Int.natCast_nonneg (2 ^ k.bits)) h2
      omega
    omega
  have hle : (BitVec.ofInt k.bits x &&& BitVec.ofInt k.bits n).toNat ≤ n.toNat := by
    rw [BitVec.toNat_and]
    exact Nat.le_trans Nat.and_le_right hn
  generalize (BitVec.ofInt k.bits x &&& BitVec.ofInt k.bits n).toNat = m at hle
  have hlo : loOf k ≤ 0 := by unfold loOf; cases k <;> simp [IntKind.bits, IntKind.signed]
  rw [wrap_in (k := k) (x := (m : Int)) (by omega) (by omega)]
  omega

theorem rngE_ok : ∀ e : E, (∀ l, (rngE e).1 = some l → l ≤ (e.ev U r).toI) ∧ (∀ u, (rngE e).2 = some u → (e.ev U r).toI ≤ u) := by
  intro e
  induction e with
  | i n => exact ⟨fun l h => (by cases h; exact Int.le_refl _), fun u h => (by cases h; exact Int.le_refl _)⟩
  | o1 o x ih =>
    cases o with
    | llen => exact ⟨fun l h => by cases h; simp only [E.ev, O1.ev, D.toI_i]; omega, fun u h => by cases h⟩
    | slen =>
      have hx : ((E.o1 .slen x).ev U r).toI = (((x.ev U r).toS.size : Nat) : Int) := rfl
      rw [hx]
      simp only [rngE]
      split
      · rename_i y b
        refine ⟨fun l h => by cases h; omega, fun u h => ?_⟩
        split at h
        · cases h
          show ((((y.ev U r).toS.extract 0 b.toNat).size : Nat) : Int) ≤ b
          rw [ByteArray.size_extract]
          omega
        · cases h
      · exact ⟨fun l h => (by cases h; omega), fun u h => (by cases h)⟩
    | wrap k =>
      have hw := wrap_range k (x.ev U r).toI
      have he : ((E.o1 (.wrap k) x).ev U r).toI = k.wrap (x.ev U r).toI := rfl
      rw [he]
      simp only [rngE]
      split
      · rename_i l u hx
        rw [hx] at ih
        have h1 := ih.1 l rfl
        have h2 := ih.2 u rfl
        split
        · rename_i hc
          rw [wrap_in (by omega) (by omega)]
          exact ⟨fun l' h => (by cases h; exact h1), fun u' h => (by cases h; exact h2)⟩
        · exact ⟨fun l' h => (by cases h; exact hw.1), fun u' h => (by cases h; exact hw.2)⟩
      · exact ⟨fun l' h => (by cases h; exact hw.1), fun u' h => (by cases h; exact hw.2)⟩
    | _ => exact ⟨fun l h => (by cases h), fun u h => (by cases h)⟩
  | o2 o x y ihx ihy =>
    cases o with
    | sidx =>
      refine ⟨fun l h => by cases h; simp only [E.ev, O2.ev, D.toI_i]; omega, fun u h => ?_⟩
      cases h
      simp only [E.ev, O2.ev, D.toI_i]
      have := ((x.ev U r).toS.data[(y.ev U r).toI.toNat]?.getD 0).toNat_lt
      omega
    | iadd =>
      have he : ((E.o2 .iadd x y).ev U r).toI = (x.ev U r).toI + (y.ev U r).toI := rfl
      rw [he]
      simp only [rngE]
      cases hx : rngE x with
      | mk a b =>
        cases hy : rngE y with
        | mk c d =>
          rw [hx] at ihx
          rw [hy] at ihy
          dsimp only at ihx ihy ⊢
          refine ⟨fun l h => ?_, fun u h => ?_⟩
          · cases a <;> cases c <;> simp at h
            have h1 := ihx.1 _ rfl
            have h2 := ihy.1 _ rfl
            omega
          · cases b <;> cases d <;> simp at h
            have h1 := ihx.2 _ rfl
            have h2 := ihy.2 _ rfl
            omega
    | imul =>
      have he : ((E.o2 .imul x y).ev U r).toI = (x.ev U r).toI * (y.ev U r).toI := rfl
      rw [he]
      simp only [rngE]
      split
      · rename_i n
        split
        · rename_i hn
          refine ⟨fun l h => ?_, fun u h => ?_⟩
          · rw [Option.map_eq_some_iff] at h
            obtain ⟨a, ha, rfl⟩ := h
            exact Int.mul_le_mul_of_nonneg_right (ihx.1 a ha) hn
          · rw [Option.map_eq_some_iff] at h
            obtain ⟨a, ha, rfl⟩ := h
            exact Int.mul_le_mul_of_nonneg_right (ihx.2 a ha) hn
        · exact ⟨fun l h => (by cases h), fun u h => (by cases h)⟩
      · exact ⟨fun l h => (by cases h), fun u h => (by cases h)⟩
    | itmod =>
      have he : ((E.o2 .itmod x y).ev U r).toI = (x.ev U r).toI.tmod (y.ev U r).toI := rfl
      rw [he]
      simp only [rngE]
      split
      · rename_i n
        show (∀ l, _ → l ≤ (x.ev U r).toI.tmod n) ∧ (∀ u, _ → (x.ev U r).toI.tmod n ≤ u)
        split
        · rename_i hn
          have h1 := Int.tmod_lt_of_pos (x.ev U r).toI hn
          have h2 : -n < (x.ev U r).toI.tmod n := by
            have := Int.lt_tmod_of_pos (x.ev U r).toI hn
            omega
          split
          · rename_i l hl
            have h3 := ihx.1 l hl
            split
            · have h4 := Int.tmod_nonneg n (a := (x.ev U r).toI) (by omega)
              exact ⟨fun l h => (by cases h; exact h4), fun u h => (by cases h; omega)⟩
            · exact ⟨fun l h => (by cases h; omega), fun u h => (by cases h; omega)⟩
          · exact ⟨fun l h => (by cases h; omega), fun u h => (by cases h; omega)⟩
        · exact ⟨fun l h => (by cases h), fun u h => (by cases h)⟩
      · exact ⟨fun l h => (by cases h), fun u h => (by cases h)⟩
    | iand k =>
      simp only [rngE]
      split
      · rename_i n
        split
        · rename_i hn
          have h1 := iand_in k (x.ev U r).toI n hn.1 hn.2
          exact ⟨fun l h => (by cases h; exact h1.1), fun u h => (by cases h; exact h1.2)⟩
        · exact ⟨fun l h => (by cases h), fun u h => (by cases h)⟩
      · exact ⟨fun l h => (by cases h), fun u h => (by cases h)⟩
    | _ => exact ⟨fun l h => (by cases h), fun u h => (by cases h)⟩
  | _ => exact ⟨fun l h => (by cases h), fun u h => (by cases h)⟩

/-- The greatest that a sum can be. -/
def ubTs : List (E × Int) → Option Int
  | [] => some 0
  | (e, k) :: l => match ubTs l with
    | some u => if k ≤ 0 then (rngE e).1.map fun b => u + k * b else (rngE e).2.map fun b => u + k * b
    | none => none

theorem ubTs_ok : ∀ {l : List (E × Int)} {u : Int}, ubTs l = some u → evTs U r l ≤ u := by
  intro l
  induction l with
  | nil => intro u h; cases h; simp [evTs]
  | cons a l ih =>
    intro u h
    obtain ⟨e, k⟩ := a
    unfold ubTs at h
    split at h
    · rename_i u' hu
      have := ih hu
      split at h
      · rename_i hk
        rw [Option.map_eq_some_iff] at h
        obtain ⟨b, hb, rfl⟩ := h
        have h1 := (rngE_ok (U := U) (r := r) e).1 b hb
        have : k * (e.ev U r).toI ≤ k * b := Int.mul_le_mul_of_nonpos_left hk h1
        simp only [evTs]; omega
      · rename_i hk
        rw [Option.map_eq_some_iff] at h
        obtain ⟨b, hb, rfl⟩ := h
        have h1 := (rngE_ok (U := U) (r := r) e).2 b hb
        have : k * (e.ev U r).toI ≤ k * b := Int.mul_le_mul_of_nonneg_left h1 (by omega)
        simp only [evTs]; omega
    · cases h

def Lin.small (a : Lin) : Bool := match ubTs a.ts with
  | some u => decide (a.c + u ≤ 0)
  | none => false

theorem Lin.small_ok {a : Lin} (h : a.small = true) : a.ev U r ≤ 0 := by
  unfold Lin.small at h
  split at h
  · rename_i u hu
    have := ubTs_ok (U := U) (r := r) hu
    have h := of_decide_eq_true h
    simp only [Lin.ev]; omega
  · cases h

/-- Does a sum take away from what another one has? -/
def meetsT (e : E) (k : Int) : List (E × Int) → Bool
  | [] => false
  | (x, j) :: l => (decide (0 < k * j) && x.same e) || meetsT e k l
def meets (a b : Lin) : Bool := a.ts.any fun t => meetsT t.1 t.2 b.ts

/-- How often a sum is taken away from another one. -/
def ratioT (e : E) (k : Int) : List (E × Int) → Nat
  | [] => 0
  | (x, j) :: l => if decide (0 < k * j) && x.same e then (if k % j = 0 then (k / j).toNat else 1) else ratioT e k l
def ratioL (b : List (E × Int)) : List (E × Int) → Nat
  | [] => 1
  | t :: l => match ratioT t.1 t.2 b with
    | 0 => ratioL b l
    | q + 1 => q + 1
def lessF (a F : Lin) : Lin := match ratioL F.ts a.ts with
  | 0 | 1 => a.sub F
  | q => a.sub (Lin.mul q F)
theorem lessF_ok {a F : Lin} (hF : F.ev U r ≤ 0) (h : (lessF a F).ev U r ≤ 0) : a.ev U r ≤ 0 := by
  unfold lessF at h
  generalize ratioL F.ts a.ts = q at h
  split at h
  · rw [Lin.sub_ev] at h; omega
  · rw [Lin.sub_ev] at h; omega
  · rw [Lin.sub_ev, Lin.mul_ev] at h
    have : (q : Int) * F.ev U r ≤ 0 := Int.mul_nonpos_of_nonneg_of_nonpos (Int.natCast_nonneg q) hF
    omega

/-- Is a sum never above 0? -/
def provesG (mx : Int) (facts : List Lin) : Nat → Lin → Bool
  | 0, a => a.small
  | n + 1, a => a.small || facts.any fun F => meets a F && (decide (a.c - F.c ≤ (n : Int) * mx) && provesG mx facts n (lessF a F))

theorem provesG_ok {mx : Int} {facts : List Lin} (hf : ∀ F ∈ facts, F.ev U r ≤ 0) : ∀ {n : Nat} {a : Lin}, provesG mx facts n a = true → a.ev U r ≤ 0 := by
  intro n
  induction n with
  | zero => intro a h; exact Lin.small_ok h
  | succ n ih =>
    intro a h
    simp only [provesG, Bool.or_eq_true, List.any_eq_true, Bool.and_eq_true] at h
    rcases h with h | ⟨F, hF, _, _, h⟩
    · exact Lin.small_ok h
    · exact lessF_ok (hf F hF) (ih h)

/-- The greatest number among sums. -/
def topC : List Lin → Int
  | [] => 0
  | F :: l => if topC l < F.c then F.c else topC l
def proves (facts : List Lin) (n : Nat) (a : Lin) : Bool := provesG (topC facts) facts n a
theorem proves_ok {facts : List Lin} (hf : ∀ F ∈ facts, F.ev U r ≤ 0) {n : Nat} {a : Lin} (h : proves facts n a = true) : a.ev U r ≤ 0 := provesG_ok hf h

def depthI : Nat := 3

/-- What follows of a test of whole numbers. -/
def askI (pc : List (E × Bool)) (e : E) : Option Bool :=
  match e with
  | .o2 .ilt x y =>
    let fs := factsOf pc
    let d := (linE x).sub (linE y)
    if proves fs depthI (d.add ⟨1, []⟩) then some true else if proves fs depthI (Lin.mul (-1) d) then some false else none
  | .o2 .ile x y =>
    let fs := factsOf pc
    let d := (linE x).sub (linE y)
    if proves fs depthI d then some true else if proves fs depthI ((Lin.mul (-1) d).add ⟨1, []⟩) then some false else none
  | .o2 .ieq x y =>
    let fs := factsOf pc
    let d := (linE x).sub (linE y)
    if proves fs depthI (d.add ⟨1, []⟩) then some false else if proves fs depthI ((Lin.mul (-1) d).add ⟨1, []⟩) then some false
    else if proves fs depthI d && proves fs depthI (Lin.mul (-1) d) then some true else none
  | _ => none

theorem askI_ok {pc : List (E × Bool)} {e : E} {b : Bool} (hp : PcOk U r pc) (h : askI pc e = some b) : (e.ev U r).toB = b := by
  have hf := factsOf_ok hp
  have one : (⟨1, []⟩ : Lin).ev U r = 1 := rfl
  unfold askI at h
  split at h
  · rename_i x y
    dsimp only at h
    simp only [E.ev, O2.ev, D.toB_b]
    split at h
    · rename_i h1
      cases h
      have := proves_ok hf h1
      rw [Lin.add_ev, Lin.sub_ev, linE_ev, linE_ev, one] at this
      exact decide_eq_true (by omega)
    · split at h
      · rename_i h1
        cases h
        have := proves_ok hf h1
        rw [Lin.mul_ev, Lin.sub_ev, linE_ev, linE_ev] at this
        exact decide_eq_false (by omega)
      · cases h
  · rename_i x y
    dsimp only at h
    simp only [E.ev, O2.ev, D.toB_b]
    split at h
    · rename_i h1
      cases h
      have := proves_ok hf h1
      rw [Lin.sub_ev, linE_ev, linE_ev] at this
      exact decide_eq_true (by omega)
    · split at h
      · rename_i h1
        cases h
        have := proves_ok hf h1
        rw [Lin.add_ev, Lin.mul_ev, Lin.sub_ev, linE_ev, linE_ev, one] at this
        exact decide_eq_false (by omega)
      · cases h
  · rename_i x y
    dsimp only at h
    simp only [E.ev, O2.ev, D.toB_b]
    split at h
    · rename_i h1
      cases h
      have := proves_ok hf h1
      rw [Lin.add_ev, Lin.sub_ev, linE_ev, linE_ev, one] at this
      exact beq_eq_false_iff_ne.2 (by omega)
    · split at h
      · rename_i h1
        cases h
        have := proves_ok hf h1
        rw [Lin.add_ev, Lin.mul_ev, Lin.sub_ev, linE_ev, linE_ev, one] at this
        exact beq_eq_false_iff_ne.2 (by omega)
      · split at h
        · rename_i h1
          cases h
          rw [Bool.and_eq_true] at h1
          have h2 := proves_ok hf h1.1
          have h3 := proves_ok hf h1.2
          rw [Lin.sub_ev, linE_ev, linE_ev] at h2
          rw [Lin.mul_ev, Lin.sub_ev, linE_ev, linE_ev] at h3
          exact beq_iff_eq.2 (by omega)
        · cases h
  · cases h

/-- A sum as a word, where it is short. -/
def shortE (e : E) : E :=
  match linE e with
  | ⟨c, []⟩ => .i c
  | ⟨c, [(a, k)]⟩ => if k = 1 then (if c = 0 then a else .o2 .iadd a (.i c)) else e
  | _ => e

theorem shortE_ev (e : E) : ((shortE e).ev U r).toI = (e.ev U r).toI := by
  have h := linE_ev (U := U) (r := r) e
  unfold shortE
  split
  · rename_i c hc; rw [hc] at h; rw [← h]; simp [Lin.ev, evTs, E.ev, D.toI]
  · rename_i c a k hc
    rw [hc] at h
    split
    · rename_i hk
      subst hk
      rw [← h]
      split
      · rename_i h0; subst h0; simp [Lin.ev, evTs]
      · simp only [Lin.ev, evTs, E.ev, O2.ev, D.toI_i]; omega
    · rfl
  · rfl

/-- A number held to its kind: as it is, where what a way has met says that it fits. -/
def wrapC (pc : List (E × Bool)) (k : IntKind) (e : E) : E :=
  match e with
  | .i n => mk1 (.wrap k) (.i n)
  | e =>
    let fs := factsOf pc
    let d := linE e
    let s := shortE e
    if proves fs depthI (d.sub ⟨hiOf k, []⟩) && proves fs depthI ((Lin.mul (-1) d).add ⟨loOf k, []⟩) then s else .o1 (.wrap k) s

theorem wrapC_ev {pc : List (E × Bool)} (hp : PcOk U r pc) (k : IntKind) (e : E) : ((wrapC pc k e).ev U r).toI = k.wrap (e.ev U r).toI := by
  have hf := factsOf_ok hp
  unfold wrapC
  split
  · rw [mk1_ev]; rfl
  · dsimp only
    split
    · rename_i h
      rw [Bool.and_eq_true] at h
      have h2 := proves_ok hf h.1
      have h3 := proves_ok hf h.2
      rw [Lin.sub_ev, linE_ev] at h2
      rw [Lin.add_ev, Lin.mul_ev, linE_ev] at h3
      rw [shortE_ev, wrap_in]
      · have : (⟨loOf k, []⟩ : Lin).ev U r = loOf k := by simp [Lin.ev, evTs]
        omega
      · have : (⟨hiOf k, []⟩ : Lin).ev U r = hiOf k := by simp [Lin.ev, evTs]
        omega
    · simp only [E.ev, O1.ev, D.toI_i, shortE_ev]
end
end Go.Sx

/-
  Sx, part B: symbolic values and memory, what they stand for, and trees of ways.
-/
namespace Go.Sx

/-- Kinds of plain values. -/
inductive Sk where
  | b
  | i (k : IntKind)
  | f (k : FloatKind)
  | s
  | byte

/-- A plain value stands for a value. -/
def Sk.den : Sk → D → Value → Prop
  | .b, d, v => v = .bool d.toB
  | .i q, d, v => v = .int q d.toI
  | .f q, d, v => ∃ b, v = .float q b ∧ b < 2 ^ q.format.width ∧ cn q b = d.toF
  | .s, d, v => v = .string d.toS
  | .byte, d, v => v = .int .u8 (IntKind.u8.wrap d.toI)

/-- Cells from 'o' on hold a row: its elements one after another, each with its fields. -/
def RowDen (ks : List Sk) (ds : List D) (o : Nat) (xs : Array Value) : Prop :=
  ∀ (i : Nat) (d : D), ds[i]? = some d → (∃ fs, d = .l fs ∧ fs.length = ks.length) ∧ ∀ (f : Nat) (k : Sk), ks[f]? = some k → ∃ v, xs[o + (i * ks.length + f)]? = some v ∧ k.den (d.at_ f) v

/-- A symbolic value. 'slo id sz len': a slice of a block that holds a row, from the row's begin on; or nil. 'ptrI id sz i f': into element 'i' of such a row. 'ptr id off': into the symbolic block 'id'. 'sl': a slice that begins there; 'sz': cells an element; 'cap': where it is told. 'con': just this value. -/
inductive SV where
  | any
  | bool (e : E)
  | int (k : IntKind) (e : E)
  | flt (k : FloatKind) (e : E)
  | str (e : E)
  | ptr (id off : Nat)
  | sl (id off sz : Nat) (len : E) (cap : Option E)
  | con (v : Value)
  | agg (cs : List SV)
  | tup (vs : List SV)
  | fn (f : Fn) (xs ys : List SV)
  | fb (k : FloatKind) (e : E)
  | slo (id sz : Nat) (len : E)
  | ptrI (id sz : Nat) (i : E) (f : Nat)
  | emp

instance : Inhabited SV := ⟨.any⟩

/-- The whole numbers that hold a float's bits. -/
def ukOf : FloatKind → IntKind
  | .f32 => .u32
  | .f64 => .u64

/-- Where a symbolic block lies, and how many cells it has in truth. -/
structure Gh where
  a : Nat → Nat
  n : Nat → Nat
  o : Nat → Nat

section
variable (U : Nat → D → D) (r : Nat → D) (g : Gh) (L : Nat → Prop)

mutual
def SV.den : SV → Value → Prop
  | .any, _ => True
  | .bool e, v => v = .bool (e.ev U r).toB
  | .int k e, v => v = .int k (e.ev U r).toI
  | .flt k e, v => ∃ b, v = .float k b ∧ b < 2 ^ k.format.width ∧ cn k b = (e.ev U r).toF
  | .str e, v => v = .string (e.ev U r).toS
  | .ptr id off, v => L id ∧ v = .pointer (some ⟨g.a id, off, none⟩)
  | .sl id off sz len cap, v => L id ∧ 0 ≤ (len.ev U r).toI ∧ ∃ c, v = .slice (some ⟨g.a id, off, none⟩) (len.ev U r).toI.toNat c ∧ (len.ev U r).toI.toNat ≤ c ∧ off + c * sz ≤ g.n id ∧ ∀ e, cap = some e → c = (e.ev U r).toI.toNat
  | .con u, v => v = u
  | .agg cs, v => ∃ xs : Array Value, v = .agg xs ∧ SV.denL cs xs.toList
  | .tup cs, v => ∃ xs : Array Value, v = .tuple xs ∧ SV.denL cs xs.toList
  | .fb k e, v => ∃ b : Nat, v = .int (ukOf k) b ∧ b < 2 ^ k.format.width ∧ cn k b = (e.ev U r).toF
  | .slo id sz len, v => 0 ≤ (len.ev U r).toI ∧ ∃ base c, v = .slice base (len.ev U r).toI.toNat c ∧ (len.ev U r).toI.toNat ≤ c ∧
    (c = 0 ∨ (L id ∧ base = some ⟨g.a id, g.o id, none⟩ ∧ g.o id + c * sz ≤ g.n id))
  | .ptrI id sz i f, v => L id ∧ 0 ≤ (i.ev U r).toI ∧ v = .pointer (some ⟨g.a id, g.o id + ((i.ev U r).toI.toNat * sz + f), none⟩)
  | .fn f xs ys, v => ∃ p q : Array Value, v = .func f p q ∧ SV.denL xs p.toList ∧ SV.denL ys q.toList
  | .emp, v => ∃ base, v = .slice base 0 0
def SV.denL : List SV → List Value → Prop
  | [], [] => True
  | a :: l, b :: m => SV.den a b ∧ SV.denL l m
  | _, _ => False
end

theorem SV.denL_length {l : List SV} : ∀ {m : List Value}, SV.denL U r g L l m → l.length = m.length := by
  induction l with
  | nil => intro m h; cases m <;> simp_all [SV.denL]
  | cons a l ih => intro m h; cases m with
    | nil => simp [SV.denL] at h
    | cons b m => simp only [SV.denL] at h; simp [ih h.2]

theorem SV.denL_get {l : List SV} : ∀ {m : List Value}, SV.denL U r g L l m → ∀ {i : Nat} {c : SV}, l[i]? = some c → ∃ v, m[i]? = some v ∧ c.den U r g L v := by
  induction l with
  | nil => intro m h i c hc; simp at hc
  | cons a l ih => intro m h i c hc; cases m with
    | nil => simp [SV.denL] at h
    | cons b m =>
      simp only [SV.denL] at h
      cases i with
      | zero => simp at hc; subst hc; exact ⟨b, by simp, h.1⟩
      | succ i => simp at hc; obtain ⟨v, hv, hd⟩ := ih h.2 hc; exact ⟨v, by simpa using hv, hd⟩

theorem SV.denL_of {l : List SV} : ∀ {m : List Value}, l.length = m.length → (∀ (i : Nat) (c : SV) (v : Value), l[i]? = some c → m[i]? = some v → c.den U r g L v) → SV.denL U r g L l m := by
  induction l with
  | nil => intro m h _; cases m <;> simp_all [SV.denL]
  | cons a l ih => intro m h hp; cases m with
    | nil => simp at h
    | cons b m =>
      simp only [SV.denL]
      exact ⟨hp 0 a b (by simp) (by simp), ih (by simpa using h) fun i c v h1 h2 => hp (i + 1) c v (by simpa using h1) (by simpa using h2)⟩

theorem SV.denL_append {l l' : List SV} {m m' : List Value} (h : SV.denL U r g L l m) (h' : SV.denL U r g L l' m') : SV.denL U r g L (l ++ l') (m ++ m') := by
  induction l generalizing m with
  | nil => cases m <;> simp_all [SV.denL]
  | cons a l ih => cases m with
    | nil => simp [SV.denL] at h
    | cons b m => simp only [SV.denL, List.cons_append] at h ⊢; exact ⟨h.1, ih h.2⟩
end

/-- What is known of more places, at the same addresses. -/
structure GLe (g : Gh) (L : Nat → Prop) (g' : Gh) (L' : Nat → Prop) : Prop where
  on : ∀ id, L id → L' id ∧ g'.a id = g.a id ∧ g'.n id = g.n id
  off : ∀ id, L id → g'.o id = g.o id

section
variable {U : Nat → D → D} {r r' : Nat → D} {g g' : Gh} {L L' : Nat → Prop}

mutual
theorem SV.den_mono (h : GLe g L g' L') : ∀ {s : SV} {v : Value}, s.den U r g L v → s.den U r g' L' v
  | .any, _, _ => by simp [SV.den]
  | .bool e, v, hd => hd
  | .int k e, v, hd => hd
  | .flt k e, v, hd => hd
  | .str e, v, hd => hd
  | .fb k e, v, hd => hd
  | .con u, v, hd => hd
  | .ptr id off, v, hd => by
    simp only [SV.den] at hd ⊢
    obtain ⟨h1, h2, _⟩ := h.on id hd.1
    exact ⟨h1, by rw [h2]; exact hd.2⟩
  | .sl id off sz len cap, v, hd => by
    simp only [SV.den] at hd ⊢
    obtain ⟨hl, h0, c, hv, h3, h4, h5⟩ := hd
    obtain ⟨h1, h2, h6⟩ := h.on id hl
    exact ⟨h1, h0, c, by rw [h2]; exact hv, h3, by rw [h6]; exact h4, h5⟩
  | .slo id sz len, v, hd => by
    simp only [SV.den] at hd ⊢
    obtain ⟨h0, base, c, hv, h3, h4⟩ := hd
    refine ⟨h0, base, c, hv, h3, ?_⟩
    rcases h4 with h4 | ⟨hl, h4, h5⟩
    · exact .inl h4
    · obtain ⟨h1, h2, h6⟩ := h.on id hl
      exact .inr ⟨h1, by rw [h2, h.off id hl]; exact h4, by rw [h6, h.off id hl]; exact h5⟩
  | .ptrI id sz i f, v, hd => by
    simp only [SV.den] at hd ⊢
    obtain ⟨h1, h2, _⟩ := h.on id hd.1
    exact ⟨h1, hd.2.1, by rw [h2, h.off id hd.1]; exact hd.2.2⟩
  | .emp, v, hd => by simp only [SV.den] at hd ⊢; exact hd
  | .agg cs, v, hd => by
    simp only [SV.den] at hd ⊢
    obtain ⟨xs, hv, hc⟩ := hd
    exact ⟨xs, hv, SV.denL_mono h hc⟩
  | .tup cs, v, hd => by
    simp only [SV.den] at hd ⊢
    obtain ⟨xs, hv, hc⟩ := hd
    exact ⟨xs, hv, SV.denL_mono h hc⟩
  | .fn f xs ys, v, hd => by
    simp only [SV.den] at hd ⊢
    obtain ⟨p, q, hv, hc, hc'⟩ := hd
    exact ⟨p, q, hv, SV.denL_mono h hc, SV.denL_mono h hc'⟩
theorem SV.denL_mono (h : GLe g L g' L') : ∀ {s : List SV} {v : List Value}, SV.denL U r g L s v → SV.denL U r g' L' s v
  | [], [], _ => by simp [SV.denL]
  | [], _ :: _, hd => by simp [SV.denL] at hd
  | _ :: _, [], hd => by simp [SV.denL] at hd
  | a :: l, b :: m, hd => by
    simp only [SV.denL] at hd ⊢
    exact ⟨SV.den_mono h hd.1, SV.denL_mono h hd.2⟩
end

mutual
/-- All variables of a value are below a number. -/
def SV.under (m : Nat) : SV → Bool
  | .bool e | .int _ e | .flt _ e | .str e | .fb _ e => e.under m
  | .sl _ _ _ len cap => len.under m && (match cap with | some e => e.under m | none => true)
  | .slo _ _ len => len.under m
  | .ptrI _ _ i _ => i.under m
  | .agg cs | .tup cs => SV.underL m cs
  | .fn _ xs ys => SV.underL m xs && SV.underL m ys
  | _ => true
def SV.underL (m : Nat) : List SV → Bool
  | [] => true
  | a :: l => SV.under m a && SV.underL m l
end

mutual
theorem SV.den_under {m : Nat} (hr : ∀ n, n < m → r' n = r n) : ∀ {s : SV} {v : Value}, s.under m = true → s.den U r g L v → s.den U r' g L v
  | .any, _, _, _ => by simp [SV.den]
  | .bool e, v, hu, hd => by simp only [SV.under] at hu; simp only [SV.den] at hd ⊢; rw [E.ev_under U hr hu]; exact hd
  | .int k e, v, hu, hd => by simp only [SV.under] at hu; simp only [SV.den] at hd ⊢; rw [E.ev_under U hr hu]; exact hd
  | .flt k e, v, hu, hd => by simp only [SV.under] at hu; simp only [SV.den] at hd ⊢; rw [E.ev_under U hr hu]; exact hd
  | .str e, v, hu, hd => by simp only [SV.under] at hu; simp only [SV.den] at hd ⊢; rw [E.ev_under U hr hu]; exact hd
  | .fb k e, v, hu, hd => by simp only [SV.under] at hu; simp only [SV.den] at hd ⊢; rw [E.ev_under U hr hu]; exact hd
  | .con u, v, _, hd => hd
  | .emp, v, _, hd => by simp only [SV.den] at hd ⊢; exact hd
  | .ptr id off, v, _, hd => hd
  | .sl id off sz len cap, v, hu, hd => by
    simp only [SV.under, Bool.and_eq_true] at hu
    simp only [SV.den] at hd ⊢
    rw [E.ev_under U hr hu.1]
    obtain ⟨hl, h0, c, hv, h3, h4, h5⟩ := hd
    refine ⟨hl, h0, c, hv, h3, h4, fun e he => ?_⟩
    subst he
    rw [E.ev_under U hr hu.2]
    exact h5 e rfl
  | .slo id sz len, v, hu, hd => by
    simp only [SV.under] at hu
    simp only [SV.den] at hd ⊢
    rw [E.ev_under U hr hu]
    exact hd
  | .ptrI id sz i f, v, hu, hd => by
    simp only [SV.under] at hu
    simp only [SV.den] at hd ⊢
    rw [E.ev_under U hr hu]
    exact hd
  | .agg cs, v, hu, hd => by
    simp only [SV.under] at hu
    simp only [SV.den] at hd ⊢
    obtain ⟨xs, hv, hc⟩ := hd
    exact ⟨xs, hv, SV.denL_under hr hu hc⟩
  | .tup cs, v, hu, hd => by
    simp only [SV.under] at hu
    simp only [SV.den] at hd ⊢
    obtain ⟨xs, hv, hc⟩ := hd
    exact ⟨xs, hv, SV.denL_under hr hu hc⟩
  | .fn f xs ys, v, hu, hd => by
    simp only [SV.under, Bool.and_eq_true] at hu
    simp only [SV.den] at hd ⊢
    obtain ⟨p, q, hv, hc, hc'⟩ := hd
    exact ⟨p, q, hv, SV.denL_under hr hu.1 hc, SV.denL_under hr hu.2 hc'⟩
theorem SV.denL_under {m : Nat} (hr : ∀ n, n < m → r' n = r n) : ∀ {s : List SV} {v : List Value}, SV.underL m s = true → SV.denL U r g L s v → SV.denL U r' g L s v
  | [], [], _, _ => by simp [SV.denL]
  | [], _ :: _, _, hd => by simp [SV.denL] at hd
  | _ :: _, [], _, hd => by simp [SV.denL] at hd
  | a :: l, b :: m, hu, hd => by
    simp only [SV.underL, Bool.and_eq_true] at hu
    simp only [SV.denL] at hd ⊢
    exact ⟨SV.den_under hr hu.1 hd.1, SV.denL_under hr hu.2 hd.2⟩
end
end

/-! ### Memory -/

/-- A block: may it be written; its first cells; or a row from its begin on. -/
structure SB where
  wr : Bool
  cs : List SV
  row : Option (List Sk × E) := none

/-- 'none': of this block nothing is known any more. -/
abbrev SH := List (Option SB)

/-- What goes with a walk: memory, the next variable, what the way has met. -/
structure Cx where
  h : SH
  nv : Nat
  pc : List (E × Bool)

section
variable (U : Nat → D → D)

structure HeapDen (r : Nat → D) (g : Gh) (L : Nat → Prop) (H : SH) (w : World) : Prop where
  bnd : ∀ id, L id → id < H.length
  lt : ∀ id, L id → g.a id < w.heap.size
  blk : ∀ id b, L id → H[id]? = some (some b) → ∃ xs t fz, w.heap[g.a id]? = some (.cells xs t fz) ∧ xs.size = g.n id ∧ (b.wr = true → fz = (0, 0)) ∧ b.cs.length ≤ xs.size ∧
    ∀ (j : Nat) (c : SV), b.cs[j]? = some c → ∃ v, xs[j]? = some v ∧ c.den U r g L v
  inj : ∀ i j b b', L i → L j → H[i]? = some (some b) → b.wr = true → H[j]? = some (some b') → g.a i = g.a j → i = j
  rows : ∀ id b ks e, L id → H[id]? = some (some b) → b.row = some (ks, e) → ∃ xs t fz, w.heap[g.a id]? = some (.cells xs t fz) ∧ RowDen ks (e.ev U r).toL (g.o id) xs
  live : ∀ id b, H[id]? = some (some b) → b.wr = true → L id
end

/-- The block of a world that a walk may write. -/
def Wr (g : Gh) (L : Nat → Prop) (H : SH) (k : Nat) : Prop := ∃ id b, L id ∧ H[id]? = some (some b) ∧ b.wr = true ∧ g.a id = k

/-- The worlds differ in new blocks, and in blocks that may be written. -/
structure Frm (may : Nat → Prop) (w w' : World) : Prop where
  os : w'.os = w.os
  tape : w'.tape = w.tape
  output : w'.output = w.output
  size : w.heap.size ≤ w'.heap.size
  block : ∀ k, k < w.heap.size → ¬ may k → w'.heap[k]? = w.heap[k]?

theorem Frm.refl (may : Nat → Prop) (w : World) : Frm may w w := ⟨rfl, rfl, rfl, Nat.le_refl _, fun _ _ _ => rfl⟩

/-- The places that are known behind a step. -/
def Lx (L : Nat → Prop) (H H' : SH) : Nat → Prop := fun id => L id ∨ (H.length ≤ id ∧ id < H'.length)

/-- A step of a walk. -/
structure Ext (U : Nat → D → D) (L : Nat → Prop) (r : Nat → D) (g : Gh) (c : Cx) (w : World) (r' : Nat → D) (g' : Gh) (c' : Cx) (w' : World) : Prop where
  nv : c.nv ≤ c'.nv
  agr : ∀ n, r' n = r n
  len : c.h.length ≤ c'.h.length
  ga : ∀ id, ¬ (c.h.length ≤ id ∧ id < c'.h.length) → g'.a id = g.a id ∧ g'.n id = g.n id
  go : ∀ id, ¬ (c.h.length ≤ id ∧ id < c'.h.length) → g'.o id = g.o id
  heap : HeapDen U r' g' (Lx L c.h c'.h) c'.h w'
  pc : PcOk U r' c'.pc
  frm : Frm (Wr g L c.h) w w'
  wrs : ∀ id b, Lx L c.h c'.h id → c'.h[id]? = some (some b) → b.wr = true → w.heap.size ≤ g'.a id ∨ Wr g L c.h (g'.a id)
  fresh : ∀ id, c.h.length ≤ id → id < c'.h.length → w.heap.size ≤ g'.a id ∨ Wr g L c.h (g'.a id)

theorem Lx_trans {L : Nat → Prop} {a b c : SH} (h : a.length ≤ b.length) (h' : b.length ≤ c.length) : Lx (Lx L a b) b c = Lx L a c := by
  funext id
  apply propext
  unfold Lx
  constructor
  · rintro ((h1 | h1) | h1)
    · exact .inl h1
    · exact .inr ⟨h1.1, by omega⟩
    · exact .inr ⟨by omega, h1.2⟩
  · rintro (h1 | h1)
    · exact .inl (.inl h1)
    · by_cases h2 : id < b.length
      · exact .inl (.inr ⟨h1.1, h2⟩)
      · exact .inr ⟨by omega, h1.2⟩

theorem Lx_self {L : Nat → Prop} {a : SH} : Lx L a a = L := by
  funext id
  apply propext
  unfold Lx
  constructor
  · rintro (h | h)
    · exact h
    · omega
  · exact .inl

section
variable {U : Nat → D → D} {L : Nat → Prop} {r r' r'' : Nat → D} {g g' g'' : Gh} {c c' c'' : Cx} {w w' w'' : World}

theorem Ext.refl (hh : HeapDen U r g L c.h w) (hp : PcOk U r c.pc) : Ext U L r g c w r g c w where
  nv := Nat.le_refl _
  agr := fun _ => rfl
  len := Nat.le_refl _
  ga := fun _ _ => ⟨rfl, rfl⟩
  go := fun _ _ => rfl
  heap := by rw [Lx_self]; exact hh
  pc := hp
  frm := Frm.refl _ _
  wrs := fun id b h1 h2 h3 => by rw [Lx_self] at h1; exact .inr ⟨id, b, h1, h2, h3, rfl⟩
  fresh := fun id h1 h2 => by omega

theorem Ext.trans (e : Ext U L r g c w r' g' c' w') (e' : Ext U (Lx L c.h c'.h) r' g' c' w' r'' g'' c'' w'') : Ext U L r g c w r'' g'' c'' w'' where
  nv := Nat.le_trans e.nv e'.nv
  agr := fun n => (e'.agr n).trans (e.agr n)
  len := Nat.le_trans e.len e'.len
  ga := fun id h => by
    have h1 := e.ga id (by have := e'.len; omega)
    have h2 := e'.ga id (by have := e.len; omega)
    exact ⟨h2.1.trans h1.1, h2.2.trans h1.2⟩
  go := fun id h => by
    have h1 := e.go id (by have := e'.len; omega)
    have h2 := e'.go id (by have := e.len; omega)
    exact h2.trans h1
  heap := by have := e'.heap; rwa [Lx_trans e.len e'.len] at this
  pc := e'.pc
  frm := by
    have f := e.frm
    have f' := e'.frm
    refine ⟨f'.os.trans f.os, f'.tape.trans f.tape, f'.output.trans f.output, Nat.le_trans f.size f'.size, fun k hk hn => ?_⟩
    refine (f'.block k (Nat.lt_of_lt_of_le hk f.size) ?_).trans (f.block k hk hn)
    rintro ⟨id, b, h1, h2, h3, h4⟩
    rcases e.wrs id b h1 h2 h3 with h5 | h5
    · omega
    · exact hn (h4 ▸ h5)
  wrs := fun id b h1 h2 h3 => by
    rw [← Lx_trans e.len e'.len] at h1
    rcases e'.wrs id b h1 h2 h3 with h4 | h4
    · exact .inl (Nat.le_trans e.frm.size h4)
    · obtain ⟨id0, b0, h5, h6, h7, h8⟩ := h4
      rcases e.wrs id0 b0 h5 h6 h7 with h9 | h9
      · exact .inl (by omega)
      · exact .inr (h8 ▸ h9)
  fresh := fun id h1 h2 => by
    by_cases hlt : id < c'.h.length
    · have hg := (e'.ga id (by omega)).1
      rw [hg]; exact e.fresh id h1 hlt
    · rcases e'.fresh id (by omega) h2 with h4 | h4
      · exact .inl (Nat.le_trans e.frm.size h4)
      · obtain ⟨id0, b0, h5, h6, h7, h8⟩ := h4
        rcases e.wrs id0 b0 h5 h6 h7 with h9 | h9
        · exact .inl (by omega)
        · exact .inr (h8 ▸ h9)

theorem Ext.gle (e : Ext U L r g c w r' g' c' w') (hb : ∀ id, L id → id < c.h.length) : GLe g L g' (Lx L c.h c'.h) :=
  ⟨fun id h => ⟨.inl h, e.ga id (by have := hb id h; omega)⟩, fun id h => e.go id (by have := hb id h; omega)⟩

/-- A value behind a step, where its variables are old, or no variable was made. -/
theorem Ext.den (e : Ext U L r g c w r' g' c' w') (hb : ∀ id, L id → id < c.h.length) {s : SV} {v : Value} (hu : s.under c.nv = true) (h : s.den U r g L v) : s.den U r' g' (Lx L c.h c'.h) v :=
  SV.den_mono (e.gle hb) (SV.den_under (fun n _ => e.agr n) hu h)
end

/-! ### Trees of ways -/

inductive Tree (α : Type) where
  | ret (a : α)
  | ite (c : E) (t e : Tree α)
  | all (i : Nat) (t : Tree α)
  | asm (c : E) (t : Tree α)
  | chk (c : E) (t : Tree α)
  | bad

namespace Tree
variable {α β : Type}

def bind (t : Tree α) (f : α → Tree β) : Tree β :=
  match t with
  | ret a => f a
  | ite c t e => ite c (t.bind f) (e.bind f)
  | all i t => all i (t.bind f)
  | asm c t => asm c (t.bind f)
  | chk c t => chk c (t.bind f)
  | bad => bad

def upd (r : Nat → D) (i : Nat) (d : D) : Nat → D := fun n => if n = i then d else r n

/-- Every way that is open under 'r' ends in a leaf of which 'Q' holds. -/
def sat (U : Nat → D → D) (Q : (Nat → D) → α → Prop) (r : Nat → D) : Tree α → Prop
  | ret a => Q r a
  | ite c t e => if (c.ev U r).toB then t.sat U Q r else e.sat U Q r
  | all i t => ∀ d, t.sat U Q (upd r i d)
  | asm c t => (c.ev U r).toB = true → t.sat U Q r
  | chk c t => (c.ev U r).toB = true ∧ t.sat U Q r
  | bad => False

theorem sat_bind {U : Nat → D → D} {Q : (Nat → D) → β → Prop} {f : α → Tree β} : ∀ {t : Tree α} {r : Nat → D}, (t.bind f).sat U Q r ↔ t.sat U (fun r' a => (f a).sat U Q r') r := by
  intro t
  induction t with
  | ret a => intro r; rfl
  | ite c t e iht ihe => intro r; simp only [bind, sat, iht, ihe]
  | all i t ih => intro r; simp only [bind, sat, ih]
  | asm c t ih => intro r; simp only [bind, sat, ih]
  | chk c t ih => intro r; simp only [bind, sat, ih]
  | bad => intro r; rfl

theorem sat_mono {U : Nat → D → D} {Q Q' : (Nat → D) → α → Prop} (h : ∀ r a, Q r a → Q' r a) : ∀ {t : Tree α} {r : Nat → D}, t.sat U Q r → t.sat U Q' r := by
  intro t
  induction t with
  | ret a => intro r; exact h r a
  | ite c t e iht ihe => intro r; simp only [sat]; split
                         · exact iht
                         · exact ihe
  | all i t ih => intro r hs d; exact ih (hs d)
  | asm c t ih => intro r hs hc; exact ih (hs hc)
  | chk c t ih => intro r hs; exact ⟨hs.1, ih hs.2⟩
  | bad => intro r hs; exact hs

/-- No variable is made, nothing is taken. -/
def plain : Tree α → Bool
  | ret _ => true
  | ite _ t e => t.plain && e.plain
  | all _ _ => false
  | asm _ _ => false
  | chk _ t => t.plain
  | bad => true

/-- The leaf under 'r'. -/
def leaf? (U : Nat → D → D) (r : Nat → D) : Tree α → Option α
  | ret a => some a
  | ite c t e => if (c.ev U r).toB then t.leaf? U r else e.leaf? U r
  | chk c t => if (c.ev U r).toB then t.leaf? U r else none
  | _ => none

theorem sat_plain {U : Nat → D → D} {Q : (Nat → D) → α → Prop} {r : Nat → D} : ∀ {t : Tree α}, t.plain = true → t.sat U Q r → ∃ a, t.leaf? U r = some a ∧ Q r a := by
  intro t
  induction t with
  | ret a => intro _ h; exact ⟨a, rfl, h⟩
  | ite c t e iht ihe =>
    intro hp h
    simp only [plain, Bool.and_eq_true] at hp
    simp only [sat, leaf?] at h ⊢
    split at h
    · rename_i hc; rw [if_pos hc]; exact iht hp.1 h
    · rename_i hc; rw [if_neg hc]; exact ihe hp.2 h
  | all i t ih => intro hp; simp [plain] at hp
  | asm c t ih => intro hp; simp [plain] at hp
  | chk c t ih =>
    intro hp h
    simp only [plain] at hp
    simp only [sat, leaf?] at h ⊢
    rw [if_pos h.1]; exact ih hp h.2
  | bad => intro _ h; exact h.elim
end Tree

/-- What the way has met of an expression, to the letter. -/
def lookS (e : E) : List (E × Bool) → Option Bool
  | [] => none
  | (x, b) :: l => if x.same e then some b else lookS e l

theorem lookS_ok {U : Nat → D → D} {r : Nat → D} {e : E} {b : Bool} : ∀ {pc : List (E × Bool)}, PcOk U r pc → lookS e pc = some b → (e.ev U r).toB = b := by
  intro pc
  induction pc with
  | nil => intro _ h; simp [lookS] at h
  | cons x l ih =>
    intro hp h
    obtain ⟨x, b'⟩ := x
    simp only [lookS] at h
    split at h
    · rename_i hs
      rw [← E.same_eq hs]
      have := hp (x, b') (by simp)
      simp at h
      rw [← h]; exact this
    · exact ih (fun y hy => hp y (by simp [hy])) h

/-- The name that an expression has. -/
def findE (e : E) : List (E × Bool) → Option Nat
  | [] => none
  | (.o2 .fsame (.v i) x, true) :: l => if x.same e then some i else findE e l
  | _ :: l => findE e l
/-- What a name stands for. -/
def seeN (i : Nat) : List (E × Bool) → Option E
  | [] => none
  | (.o2 .fsame (.v j) x, true) :: l => if Nat.beq i j then some x else seeN i l
  | _ :: l => seeN i l
section
variable {U : Nat → D → D} {r : Nat → D}
theorem findE_ok {e : E} {i : Nat} : ∀ {pc : List (E × Bool)}, PcOk U r pc → findE e pc = some i → (r i).toF = (e.ev U r).toF := by
  intro pc
  induction pc with
  | nil => intro _ h; cases h
  | cons x l ih =>
    intro hp h
    have hl : PcOk U r l := fun y hy => hp y (by simp [hy])
    unfold findE at h
    split at h
    · rename_i h'; cases h'
    · rename_i j x' l' h'
      cases h'
      split at h
      · rename_i hs
        cases h
        have := hp _ (List.mem_cons_self ..)
        rw [← E.same_eq hs]
        simpa [E.ev, O2.ev, D.toB_b] using this
      · exact ih hl h
    · rename_i h'
      cases h'
      exact ih hl h
theorem seeN_ok {i : Nat} {x : E} : ∀ {pc : List (E × Bool)}, PcOk U r pc → seeN i pc = some x → (r i).toF = (x.ev U r).toF := by
  intro pc
  induction pc with
  | nil => intro _ h; cases h
  | cons y l ih =>
    intro hp h
    have hl : PcOk U r l := fun z hz => hp z (by simp [hz])
    unfold seeN at h
    split at h
    · rename_i h'; cases h'
    · rename_i j x' l' h'
      cases h'
      split at h
      · rename_i hs
        cases h
        have := hp _ (List.mem_cons_self ..)
        rw [Nat.eq_of_beq_eq_true hs]
        simpa [E.ev, O2.ev, D.toB_b] using this
      · exact ih hl h
    · rename_i h'
      cases h'
      exact ih hl h
end

/-- Go's test 'x - x == 0', by the name of the difference or without. -/
def lookF (e : E) (pc : List (E × Bool)) : Option Bool :=
  match e with
  | .o2 (.feq k) (.v i) y => (match seeN i pc with
    | some (.o2 (.fsub q) a b) => lookS (.o2 (.feq k) (.o2 (.fsub q) a b) y) pc
    | _ => none)
  | .o2 (.feq k) (.o2 (.fsub q) a b) y => (match findE (.o2 (.fsub q) a b) pc with
    | some i => lookS (.o2 (.feq k) (.v i) y) pc
    | none => none)
  | _ => none
def look1 (pc : List (E × Bool)) (e : E) : Option Bool :=
  match lookS e pc with
  | some b => some b
  | none => match lookF e pc with
    | some b => some b
    | none => askI pc e
/-- The truth of 'and', 'or', 'not' by that of the parts. -/
def triE (f : E → Option Bool) : E → Option Bool
  | .b x => some x
  | .o1 .not x => (triE f x).map (!·)
  | .o2 .band x y => (match f (.o2 .band x y) with
    | some b => some b
    | none => match triE f x, triE f y with
      | some false, _ => some false
      | some true, o => o
      | none, some false => some false
      | none, _ => none)
  | .o2 .bor x y => (match f (.o2 .bor x y) with
    | some b => some b
    | none => match triE f x, triE f y with
      | some true, _ => some true
      | some false, o => o
      | none, some true => some true
      | none, _ => none)
  | e => f e
/-- What the way has met of an expression, or what follows from it. -/
def look (e : E) (pc : List (E × Bool)) : Option Bool := triE (look1 pc) e

theorem triE_ok {U : Nat → D → D} {r : Nat → D} {f : E → Option Bool} (hf : ∀ e b, f e = some b → (e.ev U r).toB = b) : ∀ {e : E} {b : Bool}, triE f e = some b → (e.ev U r).toB = b := by
  intro e
  induction e with
  | b x => intro b h; cases h; rfl
  | o1 o x ih =>
    intro b h
    cases o
    case not =>
      simp only [triE, Option.map_eq_some_iff] at h
      obtain ⟨a, ha, rfl⟩ := h
      simp only [E.ev, O1.ev, D.toB_b, ih ha]
    all_goals exact hf _ _ h
  | o2 o x y ihx ihy =>
    intro b h
    cases o
    case band =>
      simp only [triE] at h
      split at h
      · rename_i b' hb; cases h; exact hf _ _ hb
      · simp only [E.ev, O2.ev, D.toB_b]
        split at h
        · rename_i h1; cases h; rw [ihx h1]; rfl
        · rename_i h1; rw [ihx h1, ihy h]; rfl
        · rename_i h1 h2; cases h; rw [ihy h2, Bool.and_false]
        · cases h
    case bor =>
      simp only [triE] at h
      split at h
      · rename_i b' hb; cases h; exact hf _ _ hb
      · simp only [E.ev, O2.ev, D.toB_b]
        split at h
        · rename_i h1; cases h; rw [ihx h1]; rfl
        · rename_i h1; rw [ihx h1, ihy h]; rfl
        · rename_i h1 h2; cases h; rw [ihy h2, Bool.or_true]
        · cases h
    all_goals exact hf _ _ h
  | v n => intro b h; exact hf _ _ h
  | i n => intro b h; exact hf _ _ h
  | f n => intro b h; exact hf _ _ h
  | s n => intro b h; exact hf _ _ h
  | o3 o x y z => intro b h; exact hf _ _ h
  | app n x => intro b h; exact hf _ _ h

theorem lookF_ok {U : Nat → D → D} {r : Nat → D} {e : E} {b : Bool} {pc : List (E × Bool)} (hp : PcOk U r pc) (h : lookF e pc = some b) : (e.ev U r).toB = b := by
  unfold lookF at h
  split at h
  · split at h
    · rename_i hs
      have h1 := lookS_ok hp h
      have h2 := seeN_ok hp hs
      simp only [E.ev, O2.ev, D.toB_b] at h1 h2 ⊢
      rw [h2]; exact h1
    · cases h
  · split at h
    · rename_i hs
      have h1 := lookS_ok hp h
      have h2 := findE_ok hp hs
      simp only [E.ev, O2.ev, D.toB_b] at h1 h2 ⊢
      rw [← h2]; exact h1
    · cases h
  · cases h
theorem look1_ok {U : Nat → D → D} {r : Nat → D} {e : E} {b : Bool} {pc : List (E × Bool)} (hp : PcOk U r pc) (h : look1 pc e = some b) : (e.ev U r).toB = b := by
  unfold look1 at h
  split at h
  · rename_i x hx; cases h; exact lookS_ok hp hx
  · split at h
    · rename_i x hx; cases h; exact lookF_ok hp hx
    · exact askI_ok hp h
theorem look_ok {U : Nat → D → D} {r : Nat → D} {e : E} {b : Bool} {pc : List (E × Bool)} (hp : PcOk U r pc) (h : look e pc = some b) : (e.ev U r).toB = b := triE_ok (fun _ _ h => look1_ok hp h) h

/-- What a truth says of its parts. -/
def splitB : E → Bool → List (E × Bool)
  | .o1 .not x, b => splitB x (!b)
  | .o2 .band x y, true => splitB x true ++ splitB y true
  | .o2 .bor x y, false => splitB x false ++ splitB y false
  | e, b => [(e, b)]
theorem splitB_ok {U : Nat → D → D} {r : Nat → D} : ∀ {e : E} {b : Bool}, (e.ev U r).toB = b → PcOk U r (splitB e b) := by
  intro e
  have one : ∀ (e : E) (b : Bool), (e.ev U r).toB = b → PcOk U r [(e, b)] := fun e b h x hx => by rw [List.mem_singleton.1 hx]; exact h
  induction e with
  | o1 o x ih =>
    intro b h
    cases o
    case not =>
      simp only [splitB]
      refine ih ?_
      rw [← h]
      simp only [E.ev, O1.ev, D.toB_b, Bool.not_not]
    all_goals exact one _ _ h
  | o2 o x y ihx ihy =>
    intro b h
    cases o
    case band =>
      cases b
      · exact one _ _ h
      · simp only [E.ev, O2.ev, D.toB_b, Bool.and_eq_true] at h
        intro z hz
        rcases List.mem_append.1 hz with hz | hz
        · exact ihx h.1 z hz
        · exact ihy h.2 z hz
    case bor =>
      cases b
      · simp only [E.ev, O2.ev, D.toB_b, Bool.or_eq_false_iff] at h
        intro z hz
        rcases List.mem_append.1 hz with hz | hz
        · exact ihx h.1 z hz
        · exact ihy h.2 z hz
      · exact one _ _ h
    all_goals exact one _ _ h
  | v n => intro b h; exact one _ _ h
  | b n => intro b h; exact one _ _ h
  | i n => intro b h; exact one _ _ h
  | f n => intro b h; exact one _ _ h
  | s n => intro b h; exact one _ _ h
  | o3 o x y z => intro b h; exact one _ _ h
  | app n x => intro b h; exact one _ _ h

/-- Two ways, by the truth of an expression. -/
def br {α : Type} (c : Cx) (e : E) (t f : Cx → Tree α) : Tree α :=
  match e with
  | .b true => t c
  | .b false => f c
  | .o1 .not e => match look e c.pc with
    | some true => f c
    | some false => t c
    | none => .ite e (f { c with pc := splitB e true ++ c.pc }) (t { c with pc := splitB e false ++ c.pc })
  | e => match look e c.pc with
    | some true => t c
    | some false => f c
    | none => .ite e (t { c with pc := splitB e true ++ c.pc }) (f { c with pc := splitB e false ++ c.pc })

theorem br_sat {α : Type} {U : Nat → D → D} {Q : (Nat → D) → α → Prop} {r : Nat → D} {c : Cx} {e : E} {t f : Cx → Tree α} (hp : PcOk U r c.pc) (h : (br c e t f).sat U Q r) :
    ∃ pc', PcOk U r pc' ∧ (((e.ev U r).toB = true ∧ (t { c with pc := pc' }).sat U Q r) ∨ ((e.ev U r).toB = false ∧ (f { c with pc := pc' }).sat U Q r)) := by
  have cons : ∀ {x : E} {b : Bool}, (x.ev U r).toB = b → PcOk U r (splitB x b ++ c.pc) := by
    intro x b hx y hy
    rcases List.mem_append.1 hy with hy | hy
    · exact splitB_ok hx y hy
    · exact hp y hy
  unfold br at h
  split at h
  · exact ⟨c.pc, hp, .inl ⟨rfl, h⟩⟩
  · exact ⟨c.pc, hp, .inr ⟨rfl, h⟩⟩
  · rename_i e
    have hn : ((E.o1 .not e).ev U r).toB = !(e.ev U r).toB := rfl
    split at h
    · rename_i hl; have := look_ok hp hl; exact ⟨c.pc, hp, .inr ⟨by rw [hn, this]; rfl, h⟩⟩
    · rename_i hl; have := look_ok hp hl; exact ⟨c.pc, hp, .inl ⟨by rw [hn, this]; rfl, h⟩⟩
    · simp only [Tree.sat] at h
      split at h
      · rename_i hc; exact ⟨_, cons hc, .inr ⟨by rw [hn, hc]; rfl, h⟩⟩
      · rename_i hc
        have hc : (e.ev U r).toB = false := by simpa using hc
        exact ⟨_, cons hc, .inl ⟨by rw [hn, hc]; rfl, h⟩⟩
  · split at h
    · rename_i hl; have := look_ok hp hl; exact ⟨c.pc, hp, .inl ⟨this, h⟩⟩
    · rename_i hl; have := look_ok hp hl; exact ⟨c.pc, hp, .inr ⟨this, h⟩⟩
    · simp only [Tree.sat] at h
      split at h
      · rename_i hc; exact ⟨_, cons hc, .inl ⟨hc, h⟩⟩
      · rename_i hc
        have hc : (e.ev U r).toB = false := by simpa using hc
        exact ⟨_, cons hc, .inr ⟨hc, h⟩⟩

end Go.Sx

/-
  Sx, part F: the model's operations on floats, told by classes of words.
-/
namespace Go.Sx
open Ieee

theorem fmt_consts (k : FloatKind) : 0 < k.format.binade ∧ k.format.binade < k.format.infRung ∧ k.format.infRung < k.format.signWeight ∧ 2 ^ k.format.width = 2 * k.format.signWeight ∧
    2 ^ (k.format.exponentBits + k.format.fractionBits) = k.format.signWeight := by
  cases k <;> decide

/-- Which words are no numbers. -/
theorem isNaN_read (k : FloatKind) (w : Nat) : (k.format.read w).isNaN = decide (k.format.infRung < w % k.format.signWeight) := by
  obtain ⟨h0, h1, h2, _, _⟩ := fmt_consts k
  unfold Format.read
  dsimp only
  split
  · rename_i h; simp [Datum.isNaN]; omega
  · split
    · rename_i h; simp [Datum.isNaN]; omega
    · split
      · rename_i e; simp [Datum.isNaN, e]
      · rename_i a b
        have : k.format.infRung < w % k.format.signWeight := by omega
        simp [Datum.isNaN, this]

theorem isNanW_eq (k : FloatKind) (w : Nat) : isNanW k w = decide (k.format.infRung < w % k.format.signWeight) := isNaN_read k w

/-- What a word stands for, where it is no number. -/
theorem read_nan {k : FloatKind} {w : Nat} (h : isNanW k w = true) : ∃ s t, k.format.read w = .nan s t := by
  unfold isNanW at h
  cases hd : k.format.read w with
  | number s m e => rw [hd] at h; simp [Datum.isNaN] at h
  | infinity s => rw [hd] at h; simp [Datum.isNaN] at h
  | nan s t => exact ⟨s, t, rfl⟩

theorem cn_of_nan {k : FloatKind} {w : Nat} (h : isNanW k w = true) : cn k w = none := by unfold cn; rw [if_pos h]
theorem cn_of_not {k : FloatKind} {w : Nat} (h : isNanW k w = false) : cn k w = some w := by unfold cn; rw [if_neg (by simp [h])]
theorem cn_some {k : FloatKind} {w x : Nat} (h : cn k w = some x) : x = w ∧ isNanW k w = false := by
  unfold cn at h
  split at h
  · cases h
  · rename_i hn; cases h; exact ⟨rfl, by simpa using hn⟩
theorem cn_none {k : FloatKind} {w : Nat} (h : cn k w = none) : isNanW k w = true := by
  unfold cn at h
  split at h
  · assumption
  · cases h

theorem word_not_nan (k : FloatKind) (s : Bool) {rung : Nat} (h : rung ≤ k.format.infRung) : isNanW k (k.format.word s rung) = false := by
  obtain ⟨_, h1, h2, _, _⟩ := fmt_consts k
  rw [isNanW_eq]
  unfold Format.word
  split
  · have : (k.format.signWeight + rung) % k.format.signWeight = rung := by rw [Nat.add_mod_left, Nat.mod_eq_of_lt (by omega)]
    simp [this]; exact h
  · have : rung % k.format.signWeight = rung := Nat.mod_eq_of_lt (by omega)
    simp [this]; exact h

theorem nearest_not_nan (k : FloatKind) (s : Bool) (m : Nat) (p : Int) : isNanW k (k.format.nearest s m p) = false := by
  unfold Format.nearest
  dsimp only
  split
  · exact word_not_nan k s (Nat.zero_le _)
  · exact word_not_nan k s (Nat.min_le_right _ _)

theorem write_not_nan (k : FloatKind) {d : Datum} (h : d.isNaN = false) : isNanW k (k.format.write d) = false := by
  cases d with
  | number s m p => exact nearest_not_nan k s m p
  | infinity s => exact word_not_nan k s (Nat.le_refl _)
  | nan s t => simp [Datum.isNaN] at h

theorem sum_not_nan {a b d : Datum} (h : a.sum b = some d) : d.isNaN = false := by
  cases a <;> cases b <;> simp [Datum.sum] at h
  all_goals first
    | (subst h; rfl)
    | (obtain ⟨_, rfl⟩ := h; rfl)
theorem product_not_nan {a b d : Datum} (h : a.product b = some d) : d.isNaN = false := by
  cases a <;> cases b <;> simp [Datum.product] at h
  all_goals first
    | (subst h; rfl)
    | (obtain ⟨_, rfl⟩ := h; rfl)
theorem quotient_not_nan {n : Nat} {a b d : Datum} (h : a.quotient n b = some d) : d.isNaN = false := by
  cases a with
  | nan => cases b <;> simp [Datum.quotient] at h
  | infinity s => cases b <;> simp [Datum.quotient] at h; subst h; rfl
  | number s m i =>
    cases b with
    | nan => simp [Datum.quotient] at h
    | infinity t => simp [Datum.quotient] at h; subst h; rfl
    | number t n' j =>
      simp only [Datum.quotient] at h
      split at h
      · split at h
        · cases h
        · cases h; rfl
      · cases h; rfl
theorem root_not_nan {n : Nat} {a d : Datum} (h : a.root n = some d) : d.isNaN = false := by
  cases a with
  | nan => simp [Datum.root] at h
  | infinity s => cases s <;> simp [Datum.root] at h; subst h; rfl
  | number s m i =>
    simp only [Datum.root] at h
    split at h
    · cases h; rfl
    · split at h
      · cases h
      · cases h; rfl

theorem map_write_not_nan {k : FloatKind} {o : Option Datum} {x : Nat} (ho : ∀ d, o = some d → d.isNaN = false) (h : o.map k.format.write = some x) : isNanW k x = false := by
  cases o with
  | none => cases h
  | some d => cases h; exact write_not_nan k (ho d rfl)

def fop (op : BinOp) (k : FloatKind) (x y : Nat) : Option Nat :=
  match op with
  | .add => k.format.add x y
  | .sub => k.format.sub x y
  | .mul => k.format.mul x y
  | .quo => k.format.div x y
  | _ => none

theorem fop_not_nan {op : BinOp} {k : FloatKind} {x y w : Nat} (h : fop op k x y = some w) : isNanW k w = false := by
  unfold fop at h
  split at h
  · exact map_write_not_nan (fun _ hd => sum_not_nan hd) h
  · exact map_write_not_nan (fun _ hd => sum_not_nan hd) h
  · exact map_write_not_nan (fun _ hd => product_not_nan hd) h
  · exact map_write_not_nan (fun _ hd => quotient_not_nan hd) h
  · cases h

theorem fop_lt {op : BinOp} {k : FloatKind} {x y w : Nat} (h : fop op k x y = some w) : w < 2 ^ k.format.width := by
  unfold fop at h
  split at h
  · exact k.format.add_lt h
  · exact k.format.sub_lt h
  · exact k.format.mul_lt h
  · exact k.format.div_lt h
  · cases h

theorem sum_nan_left {a b : Datum} (h : a.isNaN = true) : a.sum b = none := by cases a <;> simp [Datum.isNaN] at h; rfl
theorem sum_nan_right {a b : Datum} (h : b.isNaN = true) : a.sum b = none := by cases b <;> simp [Datum.isNaN] at h; cases a <;> rfl
theorem product_nan_left {a b : Datum} (h : a.isNaN = true) : a.product b = none := by cases a <;> simp [Datum.isNaN] at h; rfl
theorem product_nan_right {a b : Datum} (h : b.isNaN = true) : a.product b = none := by cases b <;> simp [Datum.isNaN] at h; cases a <;> rfl
theorem quotient_nan_left {n : Nat} {a b : Datum} (h : a.isNaN = true) : a.quotient n b = none := by cases a <;> simp [Datum.isNaN] at h; rfl
theorem quotient_nan_right {n : Nat} {a b : Datum} (h : b.isNaN = true) : a.quotient n b = none := by cases b <;> simp [Datum.isNaN] at h; cases a <;> rfl
theorem order_nan_left {a b : Datum} (h : a.isNaN = true) : a.order b = none := by cases a <;> simp [Datum.isNaN] at h; rfl
theorem order_nan_right {a b : Datum} (h : b.isNaN = true) : a.order b = none := by cases b <;> simp [Datum.isNaN] at h; cases a <;> rfl
theorem isNaN_opposite (d : Datum) : d.opposite.isNaN = d.isNaN := by cases d <;> rfl

theorem fop_nan {op : BinOp} {k : FloatKind} {x y : Nat} (h : isNanW k x = true ∨ isNanW k y = true) : fop op k x y = none := by
  unfold isNanW at h
  unfold fop
  split
  · unfold Format.add; rcases h with h | h
    · rw [sum_nan_left h]; rfl
    · rw [sum_nan_right h]; rfl
  · unfold Format.sub; rcases h with h | h
    · rw [sum_nan_left h]; rfl
    · rw [sum_nan_right (by rw [isNaN_opposite]; exact h)]; rfl
  · unfold Format.mul; rcases h with h | h
    · rw [product_nan_left h]; rfl
    · rw [product_nan_right h]; rfl
  · unfold Format.div; rcases h with h | h
    · rw [quotient_nan_left h]; rfl
    · rw [quotient_nan_right h]; rfl
  · rfl

/-- The four operations on classes. -/
def Fl.op (op : BinOp) (k : FloatKind) : Fl → Fl → Fl := Fl.lift2 (fop op k)

theorem op_cn (op : BinOp) (k : FloatKind) (x y : Nat) : Fl.op op k (cn k x) (cn k y) = fop op k x y := by
  cases hx : isNanW k x with
  | true => rw [cn_of_nan hx, fop_nan (.inl hx)]; rfl
  | false =>
    rw [cn_of_not hx]
    cases hy : isNanW k y with
    | true => rw [cn_of_nan hy, fop_nan (.inr hy)]; rfl
    | false => rw [cn_of_not hy]; rfl

theorem op_add (k : FloatKind) : Fl.op .add k = Fl.add k := rfl
theorem op_sub (k : FloatKind) : Fl.op .sub k = Fl.sub k := rfl
theorem op_mul (k : FloatKind) : Fl.op .mul k = Fl.mul k := rfl
theorem op_quo (k : FloatKind) : Fl.op .quo k = Fl.div k := rfl

theorem ord_cn (k : FloatKind) (x y : Nat) : Fl.ord k (cn k x) (cn k y) = k.format.order x y := by
  cases hx : isNanW k x with
  | true => rw [cn_of_nan hx]; unfold Format.order; unfold isNanW at hx; rw [order_nan_left hx]; rfl
  | false =>
    rw [cn_of_not hx]
    cases hy : isNanW k y with
    | true => rw [cn_of_nan hy]; unfold Format.order; unfold isNanW at hy; rw [order_nan_right hy]; rfl
    | false => rw [cn_of_not hy]; rfl

theorem compare_swap (a b : Int) : compare b a = (compare a b).swap := by
  simp only [compare, compareOfLessAndEq]
  by_cases h : a < b
  · rw [if_pos h, if_neg (by omega), if_neg (by omega)]; rfl
  · rw [if_neg h]
    by_cases h' : a = b
    · rw [if_pos h', if_neg (by omega), if_pos h'.symm]; rfl
    · rw [if_neg h', if_pos (by omega)]; rfl
theorem compare_swap_nat (a b : Nat) : compare b a = (compare a b).swap := by
  simp only [compare, compareOfLessAndEq]
  by_cases h : a < b
  · rw [if_pos h, if_neg (by omega), if_neg (by omega)]; rfl
  · rw [if_neg h]
    by_cases h' : a = b
    · rw [if_pos h', if_neg (by omega), if_pos h'.symm]; rfl
    · rw [if_neg h', if_pos (by omega)]; rfl

theorem order_swap (a b : Datum) : b.order a = (a.order b).map Ordering.swap := by
  cases a <;> cases b <;> simp only [Datum.order, Option.map_none, Option.map_some]
  · rename_i s m i t n j
    rw [Int.min_comm j i]
    exact congrArg some (compare_swap _ _)
  · rename_i s m i t; cases t <;> rfl
  · rename_i s t n j; cases s <;> rfl
  · exact congrArg some (compare_swap_nat _ _)

theorem ord_swap (k : FloatKind) (x y : Fl) : Fl.ord k y x = (Fl.ord k x y).map Ordering.swap := by
  cases x with
  | none => cases y <;> rfl
  | some a => cases y with
    | none => rfl
    | some b => exact order_swap _ _

theorem gt_swap (k : FloatKind) (x y : Fl) : Fl.gt k x y = Fl.lt k y x := by
  unfold Fl.gt Fl.lt
  rw [ord_swap k x y]
  cases h : Fl.ord k x y with
  | none => rfl
  | some o => cases o <;> rfl
theorem ge_swap (k : FloatKind) (x y : Fl) : Fl.ge k x y = Fl.le k y x := by
  unfold Fl.ge Fl.le
  rw [ord_swap k x y]
  cases h : Fl.ord k x y with
  | none => rfl
  | some o => cases o <;> rfl

/-! ### The sign -/

theorem xor_sign {n x : Nat} (h : x < 2 * 2 ^ n) : x ^^^ 2 ^ n = if x < 2 ^ n then 2 ^ n + x else x - 2 ^ n := by
  have hn := Nat.two_pow_pos n
  apply Nat.eq_of_testBit_eq
  intro i
  rw [Nat.testBit_xor, Nat.testBit_two_pow]
  by_cases hlt : x < 2 ^ n
  · rw [if_pos hlt]
    have e : 2 ^ n + x = 2 ^ n ||| x := by
      have := Nat.two_pow_add_eq_or_of_lt hlt 1
      simpa using this
    rw [e, Nat.testBit_or, Nat.testBit_two_pow]
    by_cases hi : n = i
    · subst hi
      have : x.testBit n = false := Nat.testBit_lt_two_pow hlt
      simp [this]
    · simp [hi]
  · rw [if_neg hlt]
    obtain ⟨y, rfl⟩ : ∃ y, x = 2 ^ n + y := ⟨x - 2 ^ n, by omega⟩
    have hy : y < 2 ^ n := by omega
    have e : 2 ^ n + y = 2 ^ n ||| y := by
      have := Nat.two_pow_add_eq_or_of_lt hy 1
      simpa using this
    rw [Nat.add_sub_cancel_left, e, Nat.testBit_or, Nat.testBit_two_pow]
    by_cases hi : n = i
    · subst hi
      have : y.testBit n = false := Nat.testBit_lt_two_pow hy
      simp [this]
    · simp [hi]

theorem negFloat_eq (k : FloatKind) {x : Nat} (h : x < 2 ^ k.format.width) : Op.negFloat k x = if x < k.format.signWeight then k.format.signWeight + x else x - k.format.signWeight := by
  obtain ⟨_, _, _, h3, h4⟩ := fmt_consts k
  unfold Op.negFloat
  rw [xor_sign (by rw [h4, ← h3]; exact h), h4]

theorem negFloat_lt (k : FloatKind) {x : Nat} (h : x < 2 ^ k.format.width) : Op.negFloat k x < 2 ^ k.format.width := by
  obtain ⟨_, _, _, h3, h4⟩ := fmt_consts k
  rw [negFloat_eq k h]
  split <;> omega

theorem negFloat_mod (k : FloatKind) {x : Nat} (h : x < 2 ^ k.format.width) : Op.negFloat k x % k.format.signWeight = x % k.format.signWeight := by
  obtain ⟨_, _, _, h3, h4⟩ := fmt_consts k
  rw [negFloat_eq k h]
  split
  · rw [Nat.add_mod_left]
  · conv => rhs; rw [show x = k.format.signWeight + (x - k.format.signWeight) by omega]
    rw [Nat.add_mod_left]

theorem neg_cn (k : FloatKind) {x : Nat} (h : x < 2 ^ k.format.width) : cn k (Op.negFloat k x) = Fl.neg k (cn k x) := by
  have e : isNanW k (Op.negFloat k x) = isNanW k x := by rw [isNanW_eq, isNanW_eq, negFloat_mod k h]
  cases hx : isNanW k x with
  | true => rw [cn_of_nan hx, cn_of_nan (by rw [e]; exact hx)]; rfl
  | false => rw [cn_of_not hx, cn_of_not (by rw [e]; exact hx)]; rfl

/-! ### A not-a-number off the tape -/

theorem nan_drawn (q : Question) (k : FloatKind) (hq : (∃ x y, q = .nanBits k x y) ∨ ∃ x, q = .nanConv k x) (t : Nat) : q.forced = false ∧ q.cut t < 2 ^ k.format.width ∧ cn k (q.cut t) = none := by
  have mod : ∀ S c a : Nat, c < S → (a * S + c) % S = c := fun S c a h => by rw [Nat.mul_comm, Nat.mul_add_mod, Nat.mod_eq_of_lt h]
  have key : q.forced = false ∧ q.cut t < 2 ^ k.format.width ∧ k.format.infRung < q.cut t % k.format.signWeight := by
    have e : q.forced = false ∧ q.cut t = (match k with | .f32 => (t % 2) * 2147483648 + (2139095041 + (t / 2) % 8388607) | .f64 => (t % 2) * 9223372036854775808 + (9218868437227405313 + (t / 2) % 4503599627370495)) := by
      rcases hq with ⟨x, y, rfl⟩ | ⟨x, rfl⟩ <;> cases k <;> refine ⟨rfl, ?_⟩ <;> simp only [Question.cut] <;> omega
    refine ⟨e.1, ?_, ?_⟩
    · rw [e.2]; cases k
      · show _ < 4294967296; dsimp only; omega
      · show _ < 18446744073709551616; dsimp only; omega
    · rw [e.2]; cases k
      · show 2139095040 < _ % 2147483648; dsimp only; rw [mod _ _ _ (by omega)]; omega
      · show 9218868437227405312 < _ % 9223372036854775808; dsimp only; rw [mod _ _ _ (by omega)]; omega
  exact ⟨key.1, key.2.1, cn_of_nan (by rw [isNanW_eq]; simpa using key.2.2)⟩

/-! ### Roots and conversions -/

theorem sqrt_cn (x : Nat) : Fl.sqrt (cn .f64 x) = FloatKind.f64.format.sqrt x := by
  cases hx : isNanW .f64 x with
  | true =>
    rw [cn_of_nan hx]
    unfold Format.sqrt
    obtain ⟨s, t, h⟩ := read_nan hx
    rw [h]; rfl
  | false => rw [cn_of_not hx]; rfl

theorem sqrt_not_nan {x w : Nat} (h : FloatKind.f64.format.sqrt x = some w) : isNanW .f64 w = false := map_write_not_nan (k := .f64) (fun _ hd => root_not_nan hd) h

theorem encode_lt (k : FloatKind) (d : Datum) : k.encode d < 2 ^ k.format.width := k.format.write_lt d

theorem encode_cn (k : FloatKind) {d : Datum} (h : d.isNaN = false) : cn k (k.encode d) = some (k.encode d) := cn_of_not (write_not_nan k h)

theorem nearest_cn (k : FloatKind) (n : Int) : cn k (k.nearest n) = some (k.nearest n) := encode_cn k rfl
theorem nearest_wd (k : FloatKind) (n : Int) : k.nearest n < 2 ^ k.format.width := encode_lt k _

end Go.Sx

/-
  Sx, part Q: what a word of a float is worth; equality to the last bit.
-/
namespace Go.Sx
open Ieee

/-- The worth of a rung, in units of the least place. -/
def mag (k : FloatKind) (rung : Nat) : Nat :=
  if rung < k.format.binade then rung else (k.format.binade + rung % k.format.binade) * 2 ^ (rung / k.format.binade - 1)

theorem mag_lt (k : FloatKind) {a b : Nat} (h : a < b) : mag k a < mag k b := by
  obtain ⟨h0, _, _, _, _⟩ := fmt_consts k
  unfold mag
  generalize k.format.binade = B at h0
  by_cases hb : b < B
  · rw [if_pos hb, if_pos (by omega)]; exact h
  · rw [if_neg hb]
    have hb1 : 1 ≤ b / B := (Nat.le_div_iff_mul_le h0).2 (by omega)
    have hbB : B ≤ (B + b % B) * 2 ^ (b / B - 1) := Nat.le_trans (by omega) (Nat.le_mul_of_pos_right _ (Nat.two_pow_pos _))
    by_cases ha : a < B
    · rw [if_pos ha]; omega
    · rw [if_neg ha]
      have ha1 : 1 ≤ a / B := (Nat.le_div_iff_mul_le h0).2 (by omega)
      have hle : a / B ≤ b / B := Nat.div_le_div_right (by omega)
      have ham : a % B < B := Nat.mod_lt _ h0
      rcases Nat.lt_or_eq_of_le hle with hlt | heq
      · have h1 : (B + a % B) * 2 ^ (a / B - 1) < (2 * B) * 2 ^ (a / B - 1) := Nat.mul_lt_mul_of_pos_right (by omega) (Nat.two_pow_pos _)
        have h2 : (2 * B) * 2 ^ (a / B - 1) = B * 2 ^ (a / B) := by
          rw [show 2 ^ (a / B) = 2 ^ ((a / B - 1) + 1) by congr 1; omega, Nat.pow_succ, Nat.mul_comm 2 B, Nat.mul_assoc, Nat.mul_comm 2]
        have h3 : B * 2 ^ (a / B) ≤ (B + b % B) * 2 ^ (b / B - 1) := Nat.mul_le_mul (by omega) (Nat.pow_le_pow_right (by omega) (by omega))
        omega
      · rw [heq]
        refine Nat.mul_lt_mul_of_pos_right ?_ (Nat.two_pow_pos _)
        have e1 := Nat.div_add_mod a B
        have e2 := Nat.div_add_mod b B
        rw [heq] at e1
        omega

theorem mag_inj (k : FloatKind) {a b : Nat} (h : mag k a = mag k b) : a = b := by
  rcases Nat.lt_trichotomy a b with h1 | h1 | h1
  · have := mag_lt k h1; omega
  · exact h1
  · have := mag_lt k h1; omega

theorem mag_zero (k : FloatKind) : mag k 0 = 0 := by
  obtain ⟨h0, _, _, _, _⟩ := fmt_consts k
  unfold mag; rw [if_pos h0]

def isNeg (k : FloatKind) (w : Nat) : Bool := w / k.format.signWeight % 2 == 1
def rungOf (k : FloatKind) (w : Nat) : Nat := w % k.format.signWeight

/-- The worth of a word, in units of the least place. -/
def worth (k : FloatKind) (w : Nat) : Int := if isNeg k w then -(mag k (rungOf k w) : Int) else mag k (rungOf k w)

/-- What a word of a number reads as. -/
theorem read_fin {k : FloatKind} {w : Nat} (h : rungOf k w < k.format.infRung) :
    ∃ m p, k.format.read w = .number (isNeg k w) m p ∧ k.format.leastPlace ≤ p ∧ m * 2 ^ (p - k.format.leastPlace).toNat = mag k (rungOf k w) := by
  unfold rungOf at h
  unfold Format.read isNeg rungOf mag
  dsimp only
  by_cases hb : w % k.format.signWeight < k.format.binade
  · rw [if_pos hb, if_pos hb]
    exact ⟨_, _, rfl, Int.le_refl _, by simp⟩
  · rw [if_neg hb, if_neg hb, if_pos h]
    refine ⟨_, _, rfl, by omega, ?_⟩
    congr 2
    omega

theorem read_inf {k : FloatKind} {w : Nat} (h : rungOf k w = k.format.infRung) : k.format.read w = .infinity (isNeg k w) := by
  obtain ⟨h0, h1, _, _, _⟩ := fmt_consts k
  unfold rungOf at h
  unfold Format.read isNeg
  dsimp only
  rw [if_neg (by omega), if_neg (by omega), if_pos h]

theorem rung_not_nan {k : FloatKind} {w : Nat} (h : isNanW k w = false) : rungOf k w ≤ k.format.infRung := by
  rw [isNanW_eq] at h
  unfold rungOf
  simpa using h

theorem signed_eq (s : Bool) (m up : Nat) : signed s m up = (if s then -1 else 1) * ((m * 2 ^ up : Nat) : Int) := by
  unfold signed
  rw [Nat.shiftLeft_eq]
  cases s <;> simp

theorem compare_mul {a b c : Int} (hc : 0 < c) : compare (a * c) (b * c) = compare a b := by
  simp only [compare, compareOfLessAndEq]
  have h1 : a * c < b * c ↔ a < b := Int.mul_lt_mul_right hc
  have h2 : a * c = b * c ↔ a = b := ⟨fun h => Int.eq_of_mul_eq_mul_right (by omega) h, fun h => by rw [h]⟩
  by_cases h : a < b
  · rw [if_pos h, if_pos (h1.2 h)]
  · rw [if_neg h, if_neg (fun h' => h (h1.1 h'))]
    by_cases h' : a = b
    · rw [if_pos h', if_pos (h2.2 h')]
    · rw [if_neg h', if_neg (fun h'' => h' (h2.1 h''))]

theorem worth_eq {k : FloatKind} {w : Nat} : worth k w = (if isNeg k w then -1 else 1) * (mag k (rungOf k w) : Int) := by
  unfold worth; cases isNeg k w <;> simp

/-- The order of two numbers is that of their worths. -/
theorem order_fin {k : FloatKind} {x y : Nat} (hx : rungOf k x < k.format.infRung) (hy : rungOf k y < k.format.infRung) : k.format.order x y = some (compare (worth k x) (worth k y)) := by
  obtain ⟨m, p, h1, h2, h3⟩ := read_fin hx
  obtain ⟨n, q, k1, k2, k3⟩ := read_fin hy
  unfold Format.order
  rw [h1, k1]
  simp only [Datum.order]
  congr 1
  generalize hb : min p q = b
  have hb1 : k.format.leastPlace ≤ b := by omega
  have e1 : (p - k.format.leastPlace).toNat = (p - b).toNat + (b - k.format.leastPlace).toNat := by omega
  have e2 : (q - k.format.leastPlace).toNat = (q - b).toNat + (b - k.format.leastPlace).toNat := by omega
  have hc : (0 : Int) < ((2 ^ (b - k.format.leastPlace).toNat : Nat) : Int) := by have := Nat.two_pow_pos (b - k.format.leastPlace).toNat; omega
  rw [← compare_mul hc, worth_eq, worth_eq, ← h3, ← k3, signed_eq, signed_eq, e1, e2, Nat.pow_add, Nat.pow_add, ← Nat.mul_assoc, ← Nat.mul_assoc]
  simp only [Int.natCast_mul, Int.mul_assoc]

theorem compare_eq_iff {a b : Int} : compare a b = .eq ↔ a = b := by
  simp only [compare, compareOfLessAndEq]
  by_cases h : a < b
  · rw [if_pos h]; constructor
    · intro h'; cases h'
    · intro h'; omega
  · rw [if_neg h]
    by_cases h' : a = b
    · rw [if_pos h']; simp [h']
    · rw [if_neg h']; constructor
      · intro h''; cases h''
      · intro h''; exact absurd h'' h'
theorem compare_lt_iff {a b : Int} : compare a b = .lt ↔ a < b := by
  simp only [compare, compareOfLessAndEq]
  by_cases h : a < b
  · rw [if_pos h]; simp [h]
  · rw [if_neg h]
    by_cases h' : a = b
    · rw [if_pos h']; constructor
      · intro h''; cases h''
      · intro h''; omega
    · rw [if_neg h']; constructor
      · intro h''; cases h''
      · intro h''; omega

/-- A word is its sign and its rung. -/
theorem word_parts {k : FloatKind} {w : Nat} (h : w < 2 ^ k.format.width) : w = (if isNeg k w then k.format.signWeight else 0) + rungOf k w := by
  obtain ⟨_, h1, h2, h3, _⟩ := fmt_consts k
  unfold isNeg rungOf
  have hpos : 0 < k.format.signWeight := by omega
  have hd : w / k.format.signWeight < 2 := by rw [Nat.div_lt_iff_lt_mul hpos]; omega
  have := Nat.div_add_mod w k.format.signWeight
  rcases Nat.lt_or_ge (w / k.format.signWeight) 1 with h0 | h0
  · have e : w / k.format.signWeight = 0 := Nat.lt_one_iff.1 h0
    rw [e] at this ⊢
    simp; simp at this; exact this.symm
  · have e : w / k.format.signWeight = 1 := Nat.le_antisymm (Nat.lt_succ_iff.1 hd) h0
    rw [e] at this ⊢
    simp; omega

theorem word_ext {k : FloatKind} {x y : Nat} (hx : x < 2 ^ k.format.width) (hy : y < 2 ^ k.format.width) (hs : isNeg k x = isNeg k y) (hr : rungOf k x = rungOf k y) : x = y := by
  rw [word_parts hx, word_parts hy, hs, hr]

/-- Equal to '==': one word, or two zeros. -/
theorem order_eq {k : FloatKind} {x y : Nat} (hx : x < 2 ^ k.format.width) (hy : y < 2 ^ k.format.width) (nx : isNanW k x = false) (ny : isNanW k y = false) :
    k.format.order x y = some .eq ↔ (x = y ∨ (rungOf k x = 0 ∧ rungOf k y = 0)) := by
  obtain ⟨h0, h1, h2, _, _⟩ := fmt_consts k
  have hx' := rung_not_nan nx
  have hy' := rung_not_nan ny
  rcases Nat.lt_or_eq_of_le hx' with fx | ix <;> rcases Nat.lt_or_eq_of_le hy' with fy | iy
  · rw [order_fin fx fy]
    simp only [Option.some.injEq, compare_eq_iff]
    constructor
    · intro h
      unfold worth at h
      by_cases hs : isNeg k x = isNeg k y
      · left
        refine word_ext hx hy hs (mag_inj k ?_)
        rw [hs] at h
        split at h <;> omega
      · right
        have key : mag k (rungOf k x) = 0 ∧ mag k (rungOf k y) = 0 := by
          cases hnx : isNeg k x <;> cases hny : isNeg k y <;> rw [hnx, hny] at h <;> simp at h <;> first
            | (rw [hnx, hny] at hs; exact absurd rfl hs)
            | omega
        have hz := mag_zero k
        exact ⟨mag_inj k (key.1.trans hz.symm), mag_inj k (key.2.trans hz.symm)⟩
    · rintro (rfl | ⟨h, h'⟩)
      · rfl
      · unfold worth; rw [h, h', mag_zero]; split <;> split <;> rfl
  · obtain ⟨m, p, e1, _, _⟩ := read_fin fx
    unfold Format.order
    rw [e1, read_inf iy]
    simp only [Datum.order]
    constructor
    · intro h; split at h <;> cases h
    · rintro (rfl | ⟨h, h'⟩) <;> omega
  · obtain ⟨m, p, e1, _, _⟩ := read_fin fy
    unfold Format.order
    rw [e1, read_inf ix]
    simp only [Datum.order]
    constructor
    · intro h; split at h <;> cases h
    · rintro (rfl | ⟨h, h'⟩) <;> omega
  · unfold Format.order
    rw [read_inf ix, read_inf iy]
    simp only [Datum.order]
    constructor
    · intro h
      left
      refine word_ext hx hy ?_ (ix.trans iy.symm)
      cases hnx : isNeg k x <;> cases hny : isNeg k y <;> rw [hnx, hny] at h <;> first | rfl | (exfalso; revert h; decide)
    · rintro (rfl | ⟨h, h'⟩)
      · cases isNeg k x <;> rfl
      · omega

/-- A class that is borne by some word of the kind. -/
def Wf (k : FloatKind) (x : Fl) : Prop := ∃ b, b < 2 ^ k.format.width ∧ cn k b = x

theorem Wf.some_lt {k : FloatKind} {b : Nat} (h : Wf k (some b)) : b < 2 ^ k.format.width ∧ isNanW k b = false := by
  obtain ⟨b', h1, h2⟩ := h
  obtain ⟨rfl, h3⟩ := cn_some h2
  exact ⟨h1, h3⟩

theorem feq_self {k : FloatKind} {x : Fl} (h : Wf k x) : Fl.eq k x x = x.isSome := by
  cases x with
  | none => rfl
  | some b =>
    obtain ⟨h1, h2⟩ := h.some_lt
    show (k.format.order b b == some .eq) = true
    rw [(order_eq h1 h1 h2 h2).2 (.inl rfl)]; rfl

theorem feq_iff {k : FloatKind} {x y : Nat} (hx : Wf k (some x)) (hy : Wf k (some y)) : Fl.eq k (some x) (some y) = true ↔ (x = y ∨ (rungOf k x = 0 ∧ rungOf k y = 0)) := by
  obtain ⟨h1, h2⟩ := hx.some_lt
  obtain ⟨h3, h4⟩ := hy.some_lt
  rw [← order_eq h1 h3 h2 h4]
  unfold Fl.eq Fl.ord
  simp

theorem wf_zero (k : FloatKind) : Wf k (some 0) := by
  refine ⟨0, Nat.two_pow_pos _, ?_⟩
  cases k <;> rfl

/-- A zero: its rung is nought. -/
theorem feq_zero {k : FloatKind} {x : Nat} (hx : Wf k (some x)) : Fl.eq k (some x) (some 0) = true ↔ rungOf k x = 0 := by
  rw [feq_iff hx (wf_zero k)]
  have h0 : rungOf k 0 = 0 := by unfold rungOf; simp
  constructor
  · rintro (rfl | ⟨h, _⟩)
    · exact h0
    · exact h
  · intro h; exact .inr ⟨h, h0⟩

theorem zero_word {k : FloatKind} {x : Nat} (hx : Wf k (some x)) (h : rungOf k x = 0) : x = 0 ∨ x = k.format.signWeight := by
  have := word_parts hx.some_lt.1
  rw [h] at this
  split at this <;> omega

end Go.Sx

/-
  Sx, part R: a float32 as a float64: nothing is lost.
-/
namespace Go.Sx
open Ieee

theorem read32 (w : Nat) : (∃ s m p, single.read w = .number s m p ∧ m < 2 ^ 24 ∧ -149 ≤ p ∧ p ≤ 104) ∨ (∃ s, single.read w = .infinity s) ∨ ∃ s t, single.read w = .nan s t := by
  have hb : single.binade = 8388608 := by decide
  have hi : single.infRung = 2139095040 := by decide
  have hl : single.leastPlace = -149 := by decide
  unfold Format.read
  rw [hb, hi, hl]
  dsimp only
  generalize w % single.signWeight = x
  split
  · exact .inl ⟨_, _, _, rfl, by omega, by omega, by omega⟩
  · split
    · exact .inl ⟨_, _, _, rfl, by omega, by omega, by omega⟩
    · split
      · exact .inr (.inl ⟨_, rfl⟩)
      · exact .inr (.inr ⟨_, _, rfl⟩)

theorem cut_none (n : Nat) (s : Bool) : Toward.even.cut s n 0 = n := by
  unfold Toward.cut
  simp [Nat.mod_one]

theorem rungOf_word (k : FloatKind) (s : Bool) {x : Nat} (h : x ≤ k.format.infRung) : rungOf k (k.format.word s x) = x := by
  obtain ⟨_, h1, h2, _, _⟩ := fmt_consts k
  unfold rungOf Format.word
  split
  · rw [Nat.add_mod_left, Nat.mod_eq_of_lt (by omega)]
  · exact Nat.mod_eq_of_lt (by omega)

/-- The rung of a number that a float64 holds whole. -/
theorem nearest64 (s : Bool) {m : Nat} {p : Int} (h0 : m ≠ 0) (hm : m < 2 ^ 53) (hp : -1022 ≤ p + m.log2) : double.nearest s m p = double.word s (min ((p + m.log2 - 52 + 1074).toNat * 4503599627370496 + m * 2 ^ (52 - m.log2)) 9218868437227405312) := by
  have hb : double.binade = 4503599627370496 := by decide
  have hi : double.infRung = 9218868437227405312 := by decide
  have hl : double.leastPlace = -1074 := by decide
  have hf : double.fractionBits = 52 := rfl
  have hL : m.log2 < 53 := (Nat.log2_lt h0).2 hm
  unfold Format.nearest
  rw [if_neg h0, hb, hi, hl, hf]
  dsimp only
  have hmax : max (p + (m.log2 : Int) - ((52 : Nat) : Int)) (-1074) = p + m.log2 - 52 := by omega
  rw [hmax]
  have e1 : (p - (p + (m.log2 : Int) - 52)).toNat = 52 - m.log2 := by omega
  have e2 : (p + (m.log2 : Int) - 52 - p).toNat = 0 := by omega
  have e3 : (p + (m.log2 : Int) - 52 - -1074).toNat = (p + m.log2 - 52 + 1074).toNat := by omega
  rw [e1, e2, e3, cut_none, Nat.shiftLeft_eq]

theorem widen_ok (a : Nat) : Fl.convOk .f32 .f64 (cn .f32 a) = true := by
  cases hn : isNanW .f32 a with
  | true => rw [cn_of_nan hn]; rfl
  | false =>
    rw [cn_of_not hn]
    show (decide (FloatKind.f32 = FloatKind.f64) || (FloatKind.f32.decode a).isInfinity || !(FloatKind.f64.decode (FloatKind.f64.encode (FloatKind.f32.decode a))).isInfinity) = true
    rcases read32 a with ⟨s, m, p, h, hm, h1, h2⟩ | ⟨s, h⟩ | ⟨s, t, h⟩
    · have h : FloatKind.f32.decode a = .number s m p := h
      rw [h]
      have key : (FloatKind.f64.decode (FloatKind.f64.encode (.number s m p))).isInfinity = false := by
        show (double.read (double.nearest s m p)).isInfinity = false
        by_cases h0 : m = 0
        · subst h0
          have : double.nearest s 0 p = double.word s 0 := by unfold Format.nearest; simp
          rw [this]; cases s <;> decide
        · have hL : m.log2 < 24 := (Nat.log2_lt h0).2 hm
          rw [nearest64 s h0 (by omega) (by omega)]
          have hlt : m * 2 ^ (52 - m.log2) < 9007199254740992 := by
            have h3 : m < 2 ^ (m.log2 + 1) := Nat.lt_log2_self
            have h4 : m * 2 ^ (52 - m.log2) < 2 ^ (m.log2 + 1) * 2 ^ (52 - m.log2) := Nat.mul_lt_mul_of_pos_right h3 (Nat.two_pow_pos _)
            rw [← Nat.pow_add, show m.log2 + 1 + (52 - m.log2) = 53 by omega] at h4
            omega
          have hr : min ((p + (m.log2 : Int) - 52 + 1074).toNat * 4503599627370496 + m * 2 ^ (52 - m.log2)) 9218868437227405312 < 9218868437227405312 := by
            have : (p + (m.log2 : Int) - 52 + 1074).toNat ≤ 1149 := by omega
            omega
          have hrung := rungOf_word .f64 s (Nat.le_of_lt hr)
          have hrung' : rungOf .f64 (double.word s (min ((p + (m.log2 : Int) - 52 + 1074).toNat * 4503599627370496 + m * 2 ^ (52 - m.log2)) 9218868437227405312)) < FloatKind.f64.format.infRung := by
            have : rungOf .f64 (double.word s (min ((p + (m.log2 : Int) - 52 + 1074).toNat * 4503599627370496 + m * 2 ^ (52 - m.log2)) 9218868437227405312)) = _ := hrung
            rw [this]; exact hr
          obtain ⟨m', p', e, _, _⟩ := read_fin hrung'
          have e : double.read (double.word s (min ((p + (m.log2 : Int) - 52 + 1074).toNat * 4503599627370496 + m * 2 ^ (52 - m.log2)) 9218868437227405312)) = _ := e
          rw [e]; rfl
      rw [key]; simp
    · have h : FloatKind.f32.decode a = .infinity s := h
      rw [h]; simp [Datum.isInfinity]
    · have h : FloatKind.f32.format.read a = .nan s t := h
      unfold isNanW at hn
      rw [h] at hn; cases hn

end Go.Sx

/-
  Sx, part Y: rounding keeps the order.
-/
namespace Go.Sx
open Ieee

/-- 'n / g', to the nearest, and between two to the even one. -/
def rhe (n g : Nat) : Nat := n / g + (if g < 2 * (n % g) ∨ (g = 2 * (n % g) ∧ (n / g) % 2 = 1) then 1 else 0)

theorem cut_even (neg : Bool) (n d : Nat) : Toward.even.cut neg n d = rhe n (2 ^ d) := by
  have key : ∀ g : Nat, n / g + (decide (g < 2 * (n % g)) || (g == 2 * (n % g) && (n / g) % 2 == 1)).toNat = rhe n g := by
    intro g
    unfold rhe
    congr 1
    by_cases h1 : g < 2 * (n % g)
    · rw [if_pos (.inl h1)]; simp [h1]
    · by_cases h2 : g = 2 * (n % g) ∧ (n / g) % 2 = 1
      · rw [if_pos (.inr h2)]
        have e1 : (g == 2 * (n % g)) = true := by simpa using h2.1
        have e2 : ((n / g) % 2 == 1) = true := by simpa using h2.2
        rw [e1, e2]; simp
      · rw [if_neg (fun h => h.elim h1 h2)]
        cases hb : (g == 2 * (n % g) && (n / g) % 2 == 1) with
        | false => simp [h1]
        | true =>
          simp only [Bool.and_eq_true, beq_iff_eq] at hb
          exact absurd hb h2
  unfold Toward.cut
  dsimp only
  rw [Nat.shiftLeft_eq, Nat.one_mul]
  rw [key]
  by_cases hd : d ≤ n.log2 + 2
  · rw [Nat.min_eq_left hd]
  · rw [Nat.min_eq_right (by omega)]
    have hn : n < 2 ^ (n.log2 + 1) := Nat.lt_log2_self
    have small : ∀ e, n.log2 + 2 ≤ e → rhe n (2 ^ e) = 0 := by
      intro e he
      have h1 : 2 ^ (n.log2 + 2) ≤ 2 ^ e := Nat.pow_le_pow_right (by omega) he
      have h2 : 2 ^ (n.log2 + 2) = 2 * 2 ^ (n.log2 + 1) := by rw [Nat.pow_succ]; omega
      have h3 : n < 2 ^ e := by omega
      unfold rhe
      rw [Nat.div_eq_of_lt h3, Nat.mod_eq_of_lt h3, if_neg]
      rintro (h | ⟨h, h'⟩)
      · omega
      · omega
    rw [small _ (Nat.le_refl _), small d (by omega)]

theorem rhe_mono {n n' g : Nat} (h : n ≤ n') : rhe n g ≤ rhe n' g := by
  unfold rhe
  have hq : n / g ≤ n' / g := Nat.div_le_div_right h
  rcases Nat.lt_or_eq_of_le hq with hlt | heq
  · have : (if g < 2 * (n % g) ∨ (g = 2 * (n % g) ∧ (n / g) % 2 = 1) then 1 else 0) ≤ 1 := by split <;> omega
    omega
  · have hr : n % g ≤ n' % g := by
      have e1 := Nat.div_add_mod n g
      have e2 := Nat.div_add_mod n' g
      rw [heq] at e1
      omega
    rw [heq]
    split
    · rename_i h1
      rw [if_pos]
      · exact Nat.le_refl _
      · rcases h1 with h1 | ⟨h1, h2⟩
        · left; omega
        · rcases Nat.lt_or_eq_of_le (show g ≤ 2 * (n' % g) by omega) with h3 | h3
          · exact .inl h3
          · exact .inr ⟨h3, h2⟩
    · omega

theorem rhe_scale {n g c : Nat} (hc : 0 < c) : rhe (n * c) (g * c) = rhe n g := by
  unfold rhe
  rw [Nat.mul_div_mul_right _ _ hc, Nat.mul_mod_mul_right]
  congr 1
  have e : 2 * (n % g * c) = 2 * (n % g) * c := by rw [Nat.mul_assoc]
  rw [e]
  have h1 : g * c < 2 * (n % g) * c ↔ g < 2 * (n % g) := Nat.mul_lt_mul_right hc
  have h2 : g * c = 2 * (n % g) * c ↔ g = 2 * (n % g) := ⟨fun h => Nat.eq_of_mul_eq_mul_right hc h, fun h => congrArg (· * c) h⟩
  simp only [h1, h2]

theorem rhe_whole {n g : Nat} (hg : 0 < g) : rhe (n * g) g = n := by
  unfold rhe
  rw [Nat.mul_div_cancel _ hg, Nat.mul_mod_left, if_neg]
  · rfl
  · rintro (h | ⟨h, _⟩) <;> omega

theorem rhe_le {n g l : Nat} (hg : 0 < g) (h : n ≤ l * g) : rhe n g ≤ l := by
  have := rhe_mono (g := g) h
  rwa [rhe_whole hg] at this
theorem le_rhe {n g l : Nat} (hg : 0 < g) (h : l * g ≤ n) : l ≤ rhe n g := by
  have := rhe_mono (g := g) h
  rwa [rhe_whole hg] at this

/-! ### The rung of 'm * 2 ^ p' -/

section
variable (k : FloatKind)

def placeOf (m : Nat) (p : Int) : Int := max (p + (m.log2 : Int) - (k.format.fractionBits : Int)) k.format.leastPlace

def rungN (m : Nat) (p : Int) : Nat :=
  if m = 0 then 0 else
  min ((placeOf k m p - k.format.leastPlace).toNat * k.format.binade + rhe (m * 2 ^ (p - placeOf k m p).toNat) (2 ^ (placeOf k m p - p).toNat)) k.format.infRung

theorem nearest_rung (neg : Bool) (m : Nat) (p : Int) : k.format.nearest neg m p = k.format.word neg (rungN k m p) := by
  unfold Format.nearest rungN
  split
  · rfl
  · dsimp only
    rw [cut_even, Nat.shiftLeft_eq]
    rfl

variable {k}

theorem two_pow_le {a b : Nat} (h : a ≤ b) : 2 ^ a ≤ 2 ^ b := Nat.pow_le_pow_right (by omega) h

/-- The rounding seen from a lower place. -/
theorem rhe_at {m : Nat} {p l q : Int} (hq : q ≤ p) (hl : q ≤ l) : rhe (m * 2 ^ (p - l).toNat) (2 ^ (l - p).toNat) = rhe (m * 2 ^ (p - q).toNat) (2 ^ (l - q).toNat) := by
  by_cases h : l ≤ p
  · have e1 : (l - p).toNat = 0 := by omega
    have e2 : (p - q).toNat = (p - l).toNat + (l - q).toNat := by omega
    rw [e1, e2, Nat.pow_add, ← Nat.mul_assoc]
    have := rhe_scale (n := m * 2 ^ (p - l).toNat) (g := 1) (c := 2 ^ (l - q).toNat) (Nat.two_pow_pos _)
    rw [Nat.one_mul] at this
    rw [this]
  · have e1 : (p - l).toNat = 0 := by omega
    have e2 : (l - q).toNat = (l - p).toNat + (p - q).toNat := by omega
    rw [e1, e2, Nat.pow_add, Nat.pow_zero, Nat.mul_one, rhe_scale (Nat.two_pow_pos _)]

theorem binade_pow : k.format.binade = 2 ^ k.format.fractionBits := by cases k <;> decide

/-- ROUNDING KEEPS THE ORDER. -/
theorem rungN_mono {m m' : Nat} {p p' q : Int} (hq : q ≤ p) (hq' : q ≤ p') (h : m * 2 ^ (p - q).toNat ≤ m' * 2 ^ (p' - q).toNat) : rungN k m p ≤ rungN k m' p' := by
  unfold rungN
  by_cases hm : m = 0
  · rw [if_pos hm]; exact Nat.zero_le _
  rw [if_neg hm]
  have hm' : m' ≠ 0 := by
    rintro rfl
    have := Nat.two_pow_pos (p - q).toNat
    have : 0 < m * 2 ^ (p - q).toNat := Nat.mul_pos (by omega) this
    omega
  rw [if_neg hm']
  refine Nat.le_min.2 ⟨Nat.le_trans (Nat.min_le_left _ _) ?_, Nat.min_le_right _ _⟩
  generalize ho : min q k.format.leastPlace = o
  have ho1 : o ≤ p := by omega
  have ho2 : o ≤ p' := by omega
  have hl1 : k.format.leastPlace ≤ placeOf k m p := by unfold placeOf; omega
  have hl2 : k.format.leastPlace ≤ placeOf k m' p' := by unfold placeOf; omega
  -- all seen from place o
  have h0 : m * 2 ^ (p - o).toNat ≤ m' * 2 ^ (p' - o).toNat := by
    have e1 : (p - o).toNat = (p - q).toNat + (q - o).toNat := by omega
    have e2 : (p' - o).toNat = (p' - q).toNat + (q - o).toNat := by omega
    rw [e1, e2, Nat.pow_add, Nat.pow_add, ← Nat.mul_assoc, ← Nat.mul_assoc]
    exact Nat.mul_le_mul_right _ h
  have a1 : 2 ^ m.log2 ≤ m := Nat.log2_self_le hm
  have a2 : m' < 2 ^ (m'.log2 + 1) := Nat.lt_log2_self
  have a3 : m < 2 ^ (m.log2 + 1) := Nat.lt_log2_self
  have a4 : 2 ^ m'.log2 ≤ m' := Nat.log2_self_le hm'
  have hL : p + (m.log2 : Int) ≤ p' + (m'.log2 : Int) := by
    have b1 : 2 ^ (m.log2 + (p - o).toNat) ≤ m * 2 ^ (p - o).toNat := by rw [Nat.pow_add]; exact Nat.mul_le_mul_right _ a1
    have b2 : m' * 2 ^ (p' - o).toNat < 2 ^ (m'.log2 + 1 + (p' - o).toNat) := by rw [Nat.pow_add]; exact Nat.mul_lt_mul_of_pos_right a2 (Nat.two_pow_pos _)
    have b3 : 2 ^ (m.log2 + (p - o).toNat) < 2 ^ (m'.log2 + 1 + (p' - o).toNat) := by omega
    have b4 := (Nat.pow_lt_pow_iff_right (by omega : 1 < 2)).1 b3
    omega
  have hlast : placeOf k m p ≤ placeOf k m' p' := by unfold placeOf; omega
  rw [rhe_at ho1 (show o ≤ placeOf k m p by omega), rhe_at ho2 (show o ≤ placeOf k m' p' by omega)]
  rcases Int.lt_or_eq_of_le hlast with hlt | heq
  · -- another place: one binade apart at least
    have c1 : rhe (m * 2 ^ (p - o).toNat) (2 ^ (placeOf k m p - o).toNat) ≤ 2 * k.format.binade := by
      refine rhe_le (Nat.two_pow_pos _) ?_
      have hle : m.log2 + 1 + (p - o).toNat ≤ 1 + k.format.fractionBits + (placeOf k m p - o).toNat := by unfold placeOf at hl1 ⊢; omega
      have := two_pow_le hle
      have d1 : m * 2 ^ (p - o).toNat ≤ 2 ^ (m.log2 + 1 + (p - o).toNat) := by rw [Nat.pow_add]; exact Nat.mul_le_mul_right _ (by omega)
      rw [binade_pow]
      have d2 : 2 * 2 ^ k.format.fractionBits * 2 ^ (placeOf k m p - o).toNat = 2 ^ (1 + k.format.fractionBits + (placeOf k m p - o).toNat) := by rw [Nat.pow_add, Nat.pow_add, Nat.pow_one]
      omega
    have c2 : k.format.binade ≤ rhe (m' * 2 ^ (p' - o).toNat) (2 ^ (placeOf k m' p' - o).toNat) := by
      refine le_rhe (Nat.two_pow_pos _) ?_
      have hl : placeOf k m' p' = p' + (m'.log2 : Int) - (k.format.fractionBits : Int) := by unfold placeOf at hlt hl1 ⊢; omega
      have hle : k.format.fractionBits + (placeOf k m' p' - o).toNat ≤ m'.log2 + (p' - o).toNat := by omega
      have := two_pow_le hle
      have d1 : 2 ^ (m'.log2 + (p' - o).toNat) ≤ m' * 2 ^ (p' - o).toNat := by rw [Nat.pow_add]; exact Nat.mul_le_mul_right _ a4
      rw [binade_pow]
      have d2 : 2 ^ k.format.fractionBits * 2 ^ (placeOf k m' p' - o).toNat = 2 ^ (k.format.fractionBits + (placeOf k m' p' - o).toNat) := by rw [Nat.pow_add]
      omega
    have c3 : (placeOf k m p - k.format.leastPlace).toNat + 1 ≤ (placeOf k m' p' - k.format.leastPlace).toNat := by omega
    have c4 := Nat.mul_le_mul_right k.format.binade c3
    rw [Nat.add_mul, Nat.one_mul] at c4
    omega
  · rw [heq]
    exact Nat.add_le_add_left (rhe_mono h0) _

/-- It is the value that counts. -/
theorem rungN_congr {m m' : Nat} {p p' q : Int} (hq : q ≤ p) (hq' : q ≤ p') (h : m * 2 ^ (p - q).toNat = m' * 2 ^ (p' - q).toNat) : rungN k m p = rungN k m' p' :=
  Nat.le_antisymm (rungN_mono hq hq' (Nat.le_of_eq h)) (rungN_mono hq' hq (Nat.le_of_eq h.symm))

end
end Go.Sx

/-
  Sx, part Za: keys (rungs with their sign), and what the operations do to them.
-/
namespace Go.Sx
open Ieee

section
variable (k : FloatKind)

def key (w : Nat) : Int := if isNeg k w then -(rungOf k w : Int) else rungOf k w

/-- The worth of a key, in units of the least place. -/
def valK (z : Int) : Int := if z < 0 then -(mag k z.natAbs : Int) else mag k z.natAbs

/-- The key nearest to 'z * 2 ^ p'. -/
def rndI (z : Int) (p : Int) : Int := if z < 0 then -(rungN k z.natAbs p : Int) else rungN k z.natAbs p

variable {k}

theorem worth_key (w : Nat) : worth k w = valK k (key k w) := by
  unfold worth key valK
  cases isNeg k w with
  | true =>
    simp only [if_true]
    by_cases h : rungOf k w = 0
    · simp [h, mag_zero]
    · rw [if_pos (by omega)]; simp
  | false =>
    simp only [Bool.false_eq_true, if_false]
    rw [if_neg (by omega)]; simp

theorem mag_le (k : FloatKind) {a b : Nat} (h : a ≤ b) : mag k a ≤ mag k b := by
  rcases Nat.lt_or_eq_of_le h with h | h
  · exact Nat.le_of_lt (mag_lt k h)
  · rw [h]; exact Nat.le_refl _

theorem valK_mono {a b : Int} (h : a ≤ b) : valK k a ≤ valK k b := by
  unfold valK
  have h0 := mag_zero k
  split
  · split
    · have := mag_le k (show b.natAbs ≤ a.natAbs by omega); omega
    · omega
  · rw [if_neg (by omega)]
    have := mag_le k (show a.natAbs ≤ b.natAbs by omega); omega

theorem valK_lt {a b : Int} (h : a < b) : valK k a < valK k b := by
  unfold valK
  have h0 := mag_zero k
  split
  · split
    · have := mag_lt k (show b.natAbs < a.natAbs by omega); omega
    · have := mag_lt k (show 0 < a.natAbs by omega); omega
  · rw [if_neg (by omega)]
    have := mag_lt k (show a.natAbs < b.natAbs by omega); omega

theorem valK_neg (a : Int) : valK k (-a) = -valK k a := by
  unfold valK
  have h0 := mag_zero k
  rcases Int.lt_trichotomy a 0 with h | h | h
  · rw [if_neg (by omega), if_pos h, Int.natAbs_neg]; simp
  · subst h; simp [h0]
  · rw [if_pos (by omega), if_neg (by omega), Int.natAbs_neg]

theorem rndI_mono {a b : Int} (h : a ≤ b) (p : Int) : rndI k a p ≤ rndI k b p := by
  have mono : ∀ {x y : Nat}, x ≤ y → rungN k x p ≤ rungN k y p := fun hxy => rungN_mono (q := p) (Int.le_refl _) (Int.le_refl _) (by simpa using hxy)
  unfold rndI
  split
  · split
    · have := mono (show b.natAbs ≤ a.natAbs by omega); omega
    · omega
  · rw [if_neg (by omega)]
    have := mono (show a.natAbs ≤ b.natAbs by omega); omega

theorem rungN_le (m : Nat) (p : Int) : rungN k m p ≤ k.format.infRung := by
  unfold rungN
  split
  · exact Nat.zero_le _
  · exact Nat.min_le_right _ _

theorem isNeg_word (s : Bool) {x : Nat} (h : x ≤ k.format.infRung) : isNeg k (k.format.word s x) = s := by
  obtain ⟨_, h1, h2, _, _⟩ := fmt_consts k
  unfold isNeg Format.word
  cases s with
  | true =>
    simp only [if_true]
    rw [Nat.add_div_left _ (by omega), Nat.div_eq_of_lt (by omega)]; rfl
  | false =>
    simp only [Bool.false_eq_true, if_false]
    rw [Nat.div_eq_of_lt (by omega)]; rfl

theorem key_word (s : Bool) {x : Nat} (h : x ≤ k.format.infRung) : key k (k.format.word s x) = if s then -(x : Int) else x := by
  unfold key
  rw [isNeg_word s h, rungOf_word k s h]

theorem key_nearest (s : Bool) (m : Nat) (p : Int) : key k (k.format.nearest s m p) = if s then -(rungN k m p : Int) else rungN k m p := by
  rw [nearest_rung, key_word s (rungN_le m p)]

theorem rungN_zero (p : Int) : rungN k 0 p = 0 := by unfold rungN; rw [if_pos rfl]

/-- The same value at a higher place. -/
theorem rungN_up (m j : Nat) (p : Int) : rungN k (m * 2 ^ j) p = rungN k m (p + j) := by
  refine rungN_congr (q := p) (Int.le_refl _) (by omega) ?_
  have e1 : (p - p).toNat = 0 := by omega
  have e2 : (p + j - p).toNat = j := by omega
  rw [e1, e2, Nat.pow_zero, Nat.mul_one]

theorem rndI_up (z : Int) (j : Nat) (p : Int) : rndI k (z * ((2 ^ j : Nat) : Int)) p = rndI k z (p + j) := by
  have hp : (0 : Int) < ((2 ^ j : Nat) : Int) := by have := Nat.two_pow_pos j; omega
  have hs : z * ((2 ^ j : Nat) : Int) < 0 ↔ z < 0 := by
    constructor
    · intro h
      rcases Int.lt_or_le z 0 with h' | h'
      · exact h'
      · have := Int.mul_nonneg h' (Int.le_of_lt hp); omega
    · intro h; exact Int.mul_neg_of_neg_of_pos h hp
  have ha : (z * ((2 ^ j : Nat) : Int)).natAbs = z.natAbs * 2 ^ j := by rw [Int.natAbs_mul]; rfl
  unfold rndI
  rw [ha, rungN_up]
  simp only [hs]

/-- A signed number, rounded. -/
theorem key_signed {s : Bool} {m : Nat} {p z : Int} (hz : z = if s then -(m : Int) else m) : key k (k.format.nearest s m p) = rndI k z p := by
  rw [key_nearest]
  unfold rndI
  subst hz
  cases s with
  | true =>
    simp only [if_true]
    by_cases h : m = 0
    · subst h; simp [rungN_zero]
    · rw [if_pos (by omega)]; simp
  | false =>
    simp only [Bool.false_eq_true, if_false]
    rw [if_neg (by omega)]; simp

def IsFinW (k : FloatKind) (w : Nat) : Prop := rungOf k w < k.format.infRung

/-- What a word of a number reads as, with its worth. -/
theorem read_worth {w : Nat} (h : IsFinW k w) : ∃ s m p, k.format.read w = .number s m p ∧ k.format.leastPlace ≤ p ∧ worth k w = signed s m 0 * ((2 ^ (p - k.format.leastPlace).toNat : Nat) : Int) := by
  obtain ⟨m, p, h1, h2, h3⟩ := read_fin h
  refine ⟨_, m, p, h1, h2, ?_⟩
  unfold worth
  rw [← h3, signed_eq]
  cases isNeg k w <;> simp [Int.neg_mul]

theorem signed_up (s : Bool) (m a b : Nat) : signed s m (a + b) = signed s m a * ((2 ^ b : Nat) : Int) := by
  rw [signed_eq, signed_eq, Nat.pow_add, ← Nat.mul_assoc]
  simp only [Int.natCast_mul, Int.mul_assoc]

theorem sum_key {s t : Bool} {m n : Nat} {i j : Int} (hi : k.format.leastPlace ≤ i) (hj : k.format.leastPlace ≤ j) :
    ∃ w, ((Datum.number s m i).sum (.number t n j)).map k.format.write = some w ∧
      key k w = rndI k (signed s m 0 * ((2 ^ (i - k.format.leastPlace).toNat : Nat) : Int) + signed t n 0 * ((2 ^ (j - k.format.leastPlace).toNat : Nat) : Int)) k.format.leastPlace := by
  simp only [Datum.sum, Option.map_some]
  refine ⟨_, rfl, ?_⟩
  generalize hb : min i j = b
  generalize ht : signed s m (i - b).toNat + signed t n (j - b).toNat = total
  have hb1 : k.format.leastPlace ≤ b := by omega
  have e1 : (i - k.format.leastPlace).toNat = (i - b).toNat + (b - k.format.leastPlace).toNat := by omega
  have e2 : (j - k.format.leastPlace).toNat = (j - b).toNat + (b - k.format.leastPlace).toNat := by omega
  have hz : signed s m 0 * ((2 ^ (i - k.format.leastPlace).toNat : Nat) : Int) + signed t n 0 * ((2 ^ (j - k.format.leastPlace).toNat : Nat) : Int) = total * ((2 ^ (b - k.format.leastPlace).toNat : Nat) : Int) := by
    have u1 := signed_up s m 0 (i - k.format.leastPlace).toNat
    have u2 := signed_up t n 0 (j - k.format.leastPlace).toNat
    rw [Nat.zero_add] at u1 u2
    rw [← ht, Int.add_mul, ← signed_up s m (i - b).toNat, ← signed_up t n (j - b).toNat, ← e1, ← e2, u1, u2]
  rw [hz, rndI_up, show k.format.leastPlace + (((b - k.format.leastPlace).toNat : Nat) : Int) = b by omega]
  show key k (k.format.nearest (if total = 0 then s && t else decide (total < 0)) total.natAbs b) = _
  by_cases h0 : total = 0
  · subst h0
    rw [key_nearest]
    simp [rungN_zero, rndI]
  · refine key_signed ?_
    rw [if_neg h0]
    by_cases hn : total < 0
    · simp [hn]; omega
    · simp [hn]; omega

theorem add_key {x y : Nat} (hx : IsFinW k x) (hy : IsFinW k y) : ∃ w, k.format.add x y = some w ∧ key k w = rndI k (worth k x + worth k y) k.format.leastPlace := by
  obtain ⟨s, m, i, h1, h2, h3⟩ := read_worth hx
  obtain ⟨t, n, j, k1, k2, k3⟩ := read_worth hy
  unfold Format.add
  rw [h1, k1, h3, k3]
  exact sum_key h2 k2

theorem sub_key {x y : Nat} (hx : IsFinW k x) (hy : IsFinW k y) : ∃ w, k.format.sub x y = some w ∧ key k w = rndI k (worth k x - worth k y) k.format.leastPlace := by
  obtain ⟨s, m, i, h1, h2, h3⟩ := read_worth hx
  obtain ⟨t, n, j, k1, k2, k3⟩ := read_worth hy
  unfold Format.sub
  rw [h1, k1, h3, k3]
  obtain ⟨w, e1, e2⟩ := sum_key (k := k) (s := s) (t := !t) (m := m) (n := n) h2 k2
  refine ⟨w, e1, ?_⟩
  rw [e2]
  have : signed (!t) n 0 = -signed t n 0 := by unfold signed; cases t <;> simp
  rw [this, Int.neg_mul]; rfl

theorem mul_key {x y : Nat} (hx : IsFinW k x) (hy : IsFinW k y) : ∃ w, k.format.mul x y = some w ∧ key k w = rndI k (worth k x * worth k y) (2 * k.format.leastPlace) := by
  obtain ⟨s, m, i, h1, h2, h3⟩ := read_worth hx
  obtain ⟨t, n, j, k1, k2, k3⟩ := read_worth hy
  unfold Format.mul
  rw [h1, k1, h3, k3]
  simp only [Datum.product, Option.map_some]
  refine ⟨_, rfl, ?_⟩
  have e : signed s m 0 * ((2 ^ (i - k.format.leastPlace).toNat : Nat) : Int) * (signed t n 0 * ((2 ^ (j - k.format.leastPlace).toNat : Nat) : Int)) =
      (signed s m 0 * signed t n 0) * ((2 ^ ((i - k.format.leastPlace).toNat + (j - k.format.leastPlace).toNat) : Nat) : Int) := by
    rw [Nat.pow_add, Int.natCast_mul]
    generalize ((2 ^ (i - k.format.leastPlace).toNat : Nat) : Int) = a
    generalize ((2 ^ (j - k.format.leastPlace).toNat : Nat) : Int) = b
    rw [Int.mul_assoc, Int.mul_left_comm a, ← Int.mul_assoc]
  rw [e, rndI_up, show 2 * k.format.leastPlace + (((i - k.format.leastPlace).toNat + (j - k.format.leastPlace).toNat : Nat) : Int) = i + j by omega]
  show key k (k.format.nearest (s ^^ t) (m * n) (i + j)) = _
  refine key_signed ?_
  unfold signed
  cases s <;> cases t <;> simp [Int.neg_mul, Int.mul_neg]
end
end Go.Sx

/-
  Sx, part Zb: keys and order; signs; quotients and roots between bounds.
-/
namespace Go.Sx
open Ieee

section
variable {k : FloatKind}

/-- A word of a number or an infinity. -/
structure Good (k : FloatKind) (w : Nat) : Prop where
  lt : w < 2 ^ k.format.width
  num : isNanW k w = false

theorem Good.le {w : Nat} (h : Good k w) : rungOf k w ≤ k.format.infRung := rung_not_nan h.num

theorem key_abs (w : Nat) : (key k w).natAbs = rungOf k w := by unfold key; split <;> omega

theorem Good.fin {w : Nat} (h : (key k w).natAbs < k.format.infRung) : IsFinW k w := by unfold IsFinW; rw [← key_abs]; exact h

theorem cmp_lt {a b : Int} (h : a < b) : compare a b = .lt := compare_lt_iff.2 h
theorem cmp_eq {a b : Int} (h : a = b) : compare a b = .eq := compare_eq_iff.2 h
theorem cmp_gt {a b : Int} (h : b < a) : compare a b = .gt := by
  simp only [compare, compareOfLessAndEq]
  rw [if_neg (by omega), if_neg (by omega)]

/-- The order of words is that of their keys. -/
theorem order_key {x y : Nat} (hx : Good k x) (hy : Good k y) : k.format.order x y = some (compare (key k x) (key k y)) := by
  have lx := hx.le
  have ly := hy.le
  have cmp : ∀ {a b c d : Int}, (a < b ↔ c < d) → (a = b ↔ c = d) → compare a b = compare c d := by
    intro a b c d h1 h2
    simp only [compare, compareOfLessAndEq, h1, h2]
  rcases Nat.lt_or_eq_of_le lx with fx | ix <;> rcases Nat.lt_or_eq_of_le ly with fy | iy
  · rw [order_fin fx fy, worth_key, worth_key]
    congr 1
    refine cmp ⟨fun h => ?_, valK_lt⟩ ⟨fun h => ?_, fun h => by rw [h]⟩
    · rcases Int.lt_or_le (key k x) (key k y) with h' | h'
      · exact h'
      · have := valK_mono (k := k) h'; omega
    · rcases Int.lt_trichotomy (key k x) (key k y) with h' | h' | h'
      · have := valK_lt (k := k) h'; omega
      · exact h'
      · have := valK_lt (k := k) h'; omega
  · obtain ⟨m, p, e, _, _⟩ := read_fin fx
    unfold Format.order
    rw [e, read_inf iy]
    simp only [Datum.order]
    have hk : key k y = if isNeg k y then -(k.format.infRung : Int) else k.format.infRung := by unfold key; rw [iy]
    have ha := key_abs (k := k) x
    congr 1
    cases hs : isNeg k y <;> rw [hs] at hk <;> simp only [if_true, Bool.false_eq_true, if_false] at hk ⊢
    · exact (cmp_lt (by omega)).symm
    · exact (cmp_gt (by omega)).symm
  · obtain ⟨m, p, e, _, _⟩ := read_fin fy
    unfold Format.order
    rw [e, read_inf ix]
    simp only [Datum.order]
    have hk : key k x = if isNeg k x then -(k.format.infRung : Int) else k.format.infRung := by unfold key; rw [ix]
    have ha := key_abs (k := k) y
    congr 1
    cases hs : isNeg k x <;> rw [hs] at hk <;> simp only [if_true, Bool.false_eq_true, if_false] at hk ⊢
    · exact (cmp_gt (by omega)).symm
    · exact (cmp_lt (by omega)).symm
  · unfold Format.order
    rw [read_inf ix, read_inf iy]
    simp only [Datum.order]
    obtain ⟨h0, h1, _, _, _⟩ := fmt_consts k
    have hkx : key k x = if isNeg k x then -(k.format.infRung : Int) else k.format.infRung := by unfold key; rw [ix]
    have hky : key k y = if isNeg k y then -(k.format.infRung : Int) else k.format.infRung := by unfold key; rw [iy]
    congr 1
    rw [hkx, hky]
    cases isNeg k x <;> cases isNeg k y <;> simp only [if_true, Bool.false_eq_true, if_false]
    · exact (cmp_eq rfl).symm
    · exact (cmp_gt (by omega)).symm
    · exact (cmp_lt (by omega)).symm
    · exact (cmp_eq rfl).symm

/-! ### Signs -/

theorem rung_neg {a : Nat} (h : a < 2 ^ k.format.width) : rungOf k (Op.negFloat k a) = rungOf k a := negFloat_mod k h

theorem key_abs' (a : Nat) : key k (a % k.format.signWeight) = ((key k a).natAbs : Int) := by
  obtain ⟨_, h1, h2, _, _⟩ := fmt_consts k
  rw [key_abs]
  unfold key isNeg rungOf
  rw [Nat.mod_mod, Nat.div_eq_of_lt (Nat.mod_lt _ (by omega))]
  rfl

theorem key_neg {a : Nat} (h : a < 2 ^ k.format.width) : key k (Op.negFloat k a) = -key k a := by
  have hr := rung_neg h
  obtain ⟨_, h1, h2, h3, h4⟩ := fmt_consts k
  have hs : isNeg k (Op.negFloat k a) = !isNeg k a := by
    have hp := word_parts h
    unfold isNeg at hp ⊢
    rw [negFloat_eq k h]
    split
    · rename_i hlt
      rw [Nat.add_div_left _ (by omega), Nat.div_eq_of_lt hlt]; rfl
    · rename_i hge
      have e1 : a / k.format.signWeight = 1 := by
        have : a / k.format.signWeight < 2 := by rw [Nat.div_lt_iff_lt_mul (by omega)]; omega
        have : 1 ≤ a / k.format.signWeight := (Nat.le_div_iff_mul_le (by omega)).2 (by omega)
        omega
      rw [e1, Nat.div_eq_of_lt (by omega)]; rfl
  unfold key
  rw [hr, hs]
  cases isNeg k a <;> simp
end
end Go.Sx

/-
  Sx, part Zc: quotients between bounds.
-/
namespace Go.Sx
open Ieee

section
variable {k : FloatKind}

theorem frac_consts (k : FloatKind) : k.format.leastPlace < 0 ∧ 0 < k.format.fractionBits := by cases k <;> decide

/-- A rung's own value is on it. -/
theorem rung_mag {R : Nat} (h : R ≤ k.format.infRung) : rungN k (mag k R) k.format.leastPlace = R := by
  have hB := binade_pow (k := k)
  have hBpos : 0 < k.format.binade := by rw [hB]; exact Nat.two_pow_pos _
  unfold mag
  by_cases hR : R < k.format.binade
  · rw [if_pos hR]
    unfold rungN
    by_cases h0 : R = 0
    · rw [if_pos h0, h0]
    · rw [if_neg h0]
      have hl : R.log2 < k.format.fractionBits := by rw [hB] at hR; exact (Nat.log2_lt h0).2 hR
      have hp : placeOf k R k.format.leastPlace = k.format.leastPlace := by unfold placeOf; omega
      rw [hp, Int.sub_self]
      have : rhe (R * 2 ^ (0 : Int).toNat) (2 ^ (0 : Int).toNat) = R := by
        have := rhe_whole (n := R) (g := 1) (by omega)
        simpa using this
      rw [this]
      simp only [Int.toNat_zero, Nat.zero_mul, Nat.zero_add]
      exact Nat.min_eq_left h
  · rw [if_neg hR]
    have hq : 1 ≤ R / k.format.binade := (Nat.le_div_iff_mul_le hBpos).2 (by omega)
    generalize he : R / k.format.binade - 1 = e
    generalize hc : k.format.binade + R % k.format.binade = c
    have hr : R % k.format.binade < k.format.binade := Nat.mod_lt _ hBpos
    have hc0 : c ≠ 0 := by omega
    rw [rungN_up]
    unfold rungN
    rw [if_neg hc0]
    have hl : c.log2 = k.format.fractionBits := by
      have h1 : c.log2 < k.format.fractionBits + 1 := (Nat.log2_lt hc0).2 (by rw [Nat.pow_succ, ← hB]; omega)
      have h2 : k.format.fractionBits ≤ c.log2 := (Nat.le_log2 hc0).2 (by rw [← hB]; omega)
      omega
    have hp : placeOf k c (k.format.leastPlace + (e : Int)) = k.format.leastPlace + (e : Int) := by unfold placeOf; rw [hl]; omega
    rw [hp, Int.sub_self]
    have h1 : rhe (c * 2 ^ (0 : Int).toNat) (2 ^ (0 : Int).toNat) = c := by
      have := rhe_whole (n := c) (g := 1) (by omega)
      simpa using this
    rw [h1, show (k.format.leastPlace + (e : Int) - k.format.leastPlace).toNat = e by omega]
    have hR2 := Nat.div_add_mod R k.format.binade
    have : e * k.format.binade + c = R := by
      rw [← hc]
      have h3 : R / k.format.binade = e + 1 := by omega
      rw [h3, Nat.mul_add, Nat.mul_one, Nat.mul_comm] at hR2
      omega
    rw [this]
    exact Nat.min_eq_left h

/-- The quotient with its last digit, which tells whether anything is left. -/
def quoT (a n : Nat) : Nat := 2 * (a / n) + (a % n != 0).toNat

theorem quoT_le {a n b : Nat} (hn : 0 < n) (h : a ≤ b * n) : quoT a n ≤ 2 * b := by
  unfold quoT
  have h1 : a / n ≤ b := by
    have := Nat.div_le_div_right (c := n) h
    rwa [Nat.mul_div_cancel _ hn] at this
  rcases Nat.lt_or_eq_of_le h1 with h2 | h2
  · have : (a % n != 0).toNat ≤ 1 := by cases (a % n != 0) <;> decide
    omega
  · have h3 := Nat.div_add_mod a n
    rw [h2, Nat.mul_comm] at h3
    have : a % n = 0 := by omega
    rw [this, h2]; simp

theorem le_quoT {a n b : Nat} (hn : 0 < n) (h : b * n ≤ a) : 2 * b ≤ quoT a n := by
  unfold quoT
  have h1 : b ≤ a / n := (Nat.le_div_iff_mul_le hn).2 h
  omega

theorem quo_big {m n d : Nat} (hm : m ≠ 0) (hn : n ≠ 0) : 2 ^ (d + 1) ≤ (m * 2 ^ (d + 2 + n.log2 - m.log2)) / n := by
  rw [Nat.le_div_iff_mul_le (by omega)]
  have h1 : 2 ^ m.log2 ≤ m := Nat.log2_self_le hm
  have h2 : n < 2 ^ (n.log2 + 1) := Nat.lt_log2_self
  have h3 : 2 ^ (d + 1) * n ≤ 2 ^ (d + 1) * 2 ^ (n.log2 + 1) := Nat.mul_le_mul_left _ (by omega)
  have h4 : 2 ^ (m.log2 + (d + 2 + n.log2 - m.log2)) ≤ m * 2 ^ (d + 2 + n.log2 - m.log2) := by rw [Nat.pow_add]; exact Nat.mul_le_mul_right _ h1
  have h5 : 2 ^ (d + 1) * 2 ^ (n.log2 + 1) ≤ 2 ^ (m.log2 + (d + 2 + n.log2 - m.log2)) := by rw [← Nat.pow_add]; exact two_pow_le (by omega)
  omega

/-- A value that is great enough is even to that place. -/
theorem mag_split {R d : Nat} (hd : 2 ^ (k.format.fractionBits + 1 + d) ≤ mag k R) : ∃ b, mag k R = b * 2 ^ d := by
  have hB := binade_pow (k := k)
  have hBpos : 0 < k.format.binade := by rw [hB]; exact Nat.two_pow_pos _
  unfold mag at hd ⊢
  split
  · rename_i hR
    rw [if_pos hR] at hd
    have := two_pow_le (show k.format.fractionBits ≤ k.format.fractionBits + 1 + d by omega)
    rw [hB] at hR
    omega
  · rename_i hR
    rw [if_neg hR] at hd
    have hr : R % k.format.binade < k.format.binade := Nat.mod_lt _ hBpos
    have h1 : (k.format.binade + R % k.format.binade) * 2 ^ (R / k.format.binade - 1) < 2 ^ (k.format.fractionBits + 1 + (R / k.format.binade - 1)) := by
      rw [Nat.pow_add]
      refine Nat.mul_lt_mul_of_pos_right ?_ (Nat.two_pow_pos _)
      rw [Nat.pow_succ, ← hB]; omega
    have h2 := (Nat.pow_lt_pow_iff_right (by omega : 1 < 2)).1 (Nat.lt_of_le_of_lt hd h1)
    refine ⟨(k.format.binade + R % k.format.binade) * 2 ^ (R / k.format.binade - 1 - d), ?_⟩
    rw [Nat.mul_assoc, ← Nat.pow_add]
    congr 2
    omega

/-- A quotient that is at most a rung's value is rounded to no higher rung. 'a': the dividend with its digits, 'e': what is left of the places. -/
theorem quo_rung_le {a n R : Nat} {pl : Int} (hn : 0 < n) (hR : R ≤ k.format.infRung) (hbig : 2 ^ (k.format.fractionBits + 1) ≤ a / n)
    (h : a * 2 ^ (pl + 1 - k.format.leastPlace).toNat ≤ mag k R * n * 2 ^ (k.format.leastPlace - (pl + 1)).toNat) : rungN k (quoT a n) pl ≤ R := by
  rw [← rung_mag hR]
  by_cases hd : pl + 1 ≤ k.format.leastPlace
  · have e1 : (pl + 1 - k.format.leastPlace).toNat = 0 := by omega
    rw [e1, Nat.pow_zero, Nat.mul_one] at h
    refine Nat.le_trans (rungN_mono (q := pl) (p' := k.format.leastPlace) (m' := mag k R) (Int.le_refl _) (by omega) ?_) (Nat.le_of_eq (by rw [rung_mag hR]))
    rw [Int.sub_self, Int.toNat_zero, Nat.pow_zero, Nat.mul_one]
    have e2 : (k.format.leastPlace - pl).toNat = (k.format.leastPlace - (pl + 1)).toNat + 1 := by omega
    rw [e2, Nat.pow_succ, ← Nat.mul_assoc]
    have := quoT_le hn (b := mag k R * 2 ^ (k.format.leastPlace - (pl + 1)).toNat) (by rw [Nat.mul_right_comm]; exact h)
    omega
  · have e1 : (k.format.leastPlace - (pl + 1)).toNat = 0 := by omega
    rw [e1, Nat.pow_zero, Nat.mul_one] at h
    generalize hdd : (pl + 1 - k.format.leastPlace).toNat = d at h
    have hge : 2 ^ (k.format.fractionBits + 1 + d) ≤ mag k R := by
      have h1 : a / n * n ≤ a := Nat.div_mul_le_self a n
      have h2 : a / n * 2 ^ d * n ≤ mag k R * n := by
        have := Nat.mul_le_mul_right (2 ^ d) h1
        rw [Nat.mul_right_comm] at this
        omega
      have h3 := Nat.le_of_mul_le_mul_right h2 hn
      have h4 := Nat.mul_le_mul_right (2 ^ d) hbig
      rw [← Nat.pow_add] at h4
      omega
    obtain ⟨b, hb⟩ := mag_split hge
    refine Nat.le_trans (rungN_mono (q := k.format.leastPlace) (p' := k.format.leastPlace) (m' := mag k R) (by omega) (Int.le_refl _) ?_) (Nat.le_of_eq (by rw [rung_mag hR]))
    rw [Int.sub_self, Int.toNat_zero, Nat.pow_zero, Nat.mul_one]
    rw [hb] at h ⊢
    have h5 : a ≤ b * n := by
      rw [Nat.mul_right_comm] at h
      exact Nat.le_of_mul_le_mul_right h (Nat.two_pow_pos d)
    have h6 := quoT_le hn h5
    have e2 : d = (pl - k.format.leastPlace).toNat + 1 := by omega
    have h7 := Nat.mul_le_mul_right (2 ^ (pl - k.format.leastPlace).toNat) h6
    have h8 : b * 2 ^ d = 2 * b * 2 ^ (pl - k.format.leastPlace).toNat := by rw [e2, Nat.pow_succ, ← Nat.mul_assoc, Nat.mul_comm 2 b, Nat.mul_right_comm]
    omega

/-- And one that is at least a rung's value to no lower one. -/
theorem le_quo_rung {a n R : Nat} {pl : Int} (hn : 0 < n) (hR : R ≤ k.format.infRung) (hbig : 2 ^ (k.format.fractionBits + 1) ≤ a / n)
    (h : mag k R * n * 2 ^ (k.format.leastPlace - (pl + 1)).toNat ≤ a * 2 ^ (pl + 1 - k.format.leastPlace).toNat) : R ≤ rungN k (quoT a n) pl := by
  have key : ∀ {q : Int}, q ≤ pl → q ≤ k.format.leastPlace → mag k R * 2 ^ (k.format.leastPlace - q).toNat ≤ quoT a n * 2 ^ (pl - q).toNat → R ≤ rungN k (quoT a n) pl := by
    intro q h1 h2 h3
    have := rungN_mono (k := k) h2 h1 h3
    rwa [rung_mag hR] at this
  by_cases hd : pl + 1 ≤ k.format.leastPlace
  · have e1 : (pl + 1 - k.format.leastPlace).toNat = 0 := by omega
    rw [e1, Nat.pow_zero, Nat.mul_one] at h
    refine key (q := pl) (Int.le_refl _) (by omega) ?_
    rw [Int.sub_self, Int.toNat_zero, Nat.pow_zero, Nat.mul_one]
    have e2 : (k.format.leastPlace - pl).toNat = (k.format.leastPlace - (pl + 1)).toNat + 1 := by omega
    rw [e2, Nat.pow_succ, ← Nat.mul_assoc]
    have := le_quoT hn (b := mag k R * 2 ^ (k.format.leastPlace - (pl + 1)).toNat) (by rw [Nat.mul_right_comm]; exact h)
    omega
  · have e1 : (k.format.leastPlace - (pl + 1)).toNat = 0 := by omega
    rw [e1, Nat.pow_zero, Nat.mul_one] at h
    generalize hdd : (pl + 1 - k.format.leastPlace).toNat = d at h
    have e2 : d = (pl - k.format.leastPlace).toNat + 1 := by omega
    refine key (q := k.format.leastPlace) (by omega) (Int.le_refl _) ?_
    rw [Int.sub_self, Int.toNat_zero, Nat.pow_zero, Nat.mul_one]
    by_cases hge : 2 ^ (k.format.fractionBits + 1 + d) ≤ mag k R
    · obtain ⟨b, hb⟩ := mag_split hge
      rw [hb] at h ⊢
      have h5 : b * n ≤ a := by
        rw [Nat.mul_right_comm] at h
        exact Nat.le_of_mul_le_mul_right h (Nat.two_pow_pos d)
      have h6 := le_quoT hn h5
      have h7 := Nat.mul_le_mul_right (2 ^ (pl - k.format.leastPlace).toNat) h6
      have h8 : b * 2 ^ d = 2 * b * 2 ^ (pl - k.format.leastPlace).toNat := by rw [e2, Nat.pow_succ, ← Nat.mul_assoc, Nat.mul_comm 2 b, Nat.mul_right_comm]
      omega
    · have h6 : 2 * 2 ^ (k.format.fractionBits + 1) ≤ quoT a n := by unfold quoT; omega
      have h7 := Nat.mul_le_mul_right (2 ^ (pl - k.format.leastPlace).toNat) h6
      have h8 : 2 ^ (k.format.fractionBits + 1 + d) = 2 * 2 ^ (k.format.fractionBits + 1) * 2 ^ (pl - k.format.leastPlace).toNat := by
        rw [e2, show k.format.fractionBits + 1 + ((pl - k.format.leastPlace).toNat + 1) = 1 + (k.format.fractionBits + 1) + (pl - k.format.leastPlace).toNat by omega, Nat.pow_add, Nat.pow_add 2 1]
      omega
end
end Go.Sx

/-
  Sx, part Rb: products with 1 and -1 inside sums; halves.
-/
namespace Go.Sx
open Ieee
section
variable {k : FloatKind}

theorem read_congr {x y : Nat} (hs : isNeg k x = isNeg k y) (hr : rungOf k x = rungOf k y) : k.format.read x = k.format.read y := by
  unfold isNeg at hs
  unfold rungOf at hr
  unfold Format.read
  dsimp only
  rw [hs, hr]
theorem fin_or_inf_or_nan (w : Nat) : rungOf k w < k.format.infRung ∨ rungOf k w = k.format.infRung ∨ isNanW k w = true := by
  rw [isNanW_eq]
  unfold rungOf
  rcases Nat.lt_trichotomy (w % k.format.signWeight) k.format.infRung with h | h | h
  · exact .inl h
  · exact .inr (.inl h)
  · exact .inr (.inr (decide_eq_true h))
theorem read_infW (s : Bool) : k.format.read (k.format.word s k.format.infRung) = .infinity s := by
  rw [read_inf (rungOf_word k s (Nat.le_refl _)), isNeg_word s (Nat.le_refl _)]
/-- What is read of a word is its rung's number. -/
theorem rung_read {w : Nat} {s : Bool} {m : Nat} {p : Int} (hf : rungOf k w < k.format.infRung) (h : k.format.read w = .number s m p) : s = isNeg k w ∧ rungN k m p = rungOf k w := by
  obtain ⟨m', p', h1, h2, h3⟩ := read_fin hf
  rw [h] at h1
  cases h1
  refine ⟨rfl, ?_⟩
  rw [← rung_mag (k := k) (Nat.le_of_lt hf), ← h3]
  rw [rungN_up]
  congr 1
  omega
theorem read_nearest {w : Nat} {s : Bool} {m : Nat} {p : Int} (hf : rungOf k w < k.format.infRung) (h : k.format.read w = .number s m p) (t : Bool) : k.format.read (k.format.nearest t m p) = .number t m p := by
  obtain ⟨_, h2⟩ := rung_read hf h
  rw [nearest_rung, h2]
  have hle := Nat.le_of_lt hf
  have hr : rungOf k (k.format.word t (rungOf k w)) = rungOf k w := rungOf_word k t hle
  have hs : isNeg k (k.format.word t (rungOf k w)) = t := isNeg_word t hle
  generalize k.format.word t (rungOf k w) = W at hr hs
  have hr : W % k.format.signWeight = w % k.format.signWeight := hr
  have hs : (W / k.format.signWeight % 2 == 1) = t := hs
  have hf : w % k.format.signWeight < k.format.infRung := hf
  unfold Format.read at h ⊢
  dsimp only at h ⊢
  rw [hr, hs]
  split at h
  · rename_i h1
    rw [if_pos h1]
    cases h; rfl
  · rename_i h1
    rw [if_neg h1]
    rw [if_pos hf]
    cases h; rfl

/-- The words of 1, -1, 2 and a half. -/
def oneW : FloatKind → Nat
  | .f32 => 1065353216
  | .f64 => 4607182418800017408
def negOneW : FloatKind → Nat
  | .f32 => 3212836864
  | .f64 => 13830554455654793216
def twoW : FloatKind → Nat
  | .f32 => 1073741824
  | .f64 => 4611686018427387904
def halfW : FloatKind → Nat
  | .f32 => 1056964608
  | .f64 => 4602678819172646912
theorem read_one : k.format.read (oneW k) = .number false k.format.binade (-(k.format.fractionBits : Int)) := by cases k <;> decide +kernel
theorem read_negOne : k.format.read (negOneW k) = .number true k.format.binade (-(k.format.fractionBits : Int)) := by cases k <;> decide +kernel
theorem read_two : k.format.read (twoW k) = .number false k.format.binade (1 - (k.format.fractionBits : Int)) := by cases k <;> decide +kernel
theorem read_half : k.format.read (halfW k) = .number false k.format.binade (-1 - (k.format.fractionBits : Int)) := by cases k <;> decide +kernel

theorem nearest_binade (s : Bool) (m : Nat) (p : Int) : k.format.nearest s (k.format.binade * m) (-(k.format.fractionBits : Int) + p) = k.format.nearest s m p := by
  rw [nearest_rung, nearest_rung, Nat.mul_comm, binade_pow, rungN_up]
  congr 2; omega

/-- A unit times a word reads as the word, or its opposite. -/
theorem unit_mul (t : Bool) {u : Nat} (hu : k.format.read u = .number t k.format.binade (-(k.format.fractionBits : Int))) (p : Nat) :
    (isNanW k p = true ∧ k.format.mul u p = none) ∨ ∃ w, k.format.mul u p = some w ∧ k.format.read w = (if t then (k.format.read p).opposite else k.format.read p) := by
  have hb : k.format.binade ≠ 0 := Nat.ne_of_gt (fmt_consts k).1
  rcases fin_or_inf_or_nan (k := k) p with h | h | h
  · right
    obtain ⟨m, i, h1, _, _⟩ := read_fin h
    refine ⟨k.format.nearest (t ^^ isNeg k p) m i, ?_, ?_⟩
    · unfold Format.mul
      rw [hu, h1]
      simp only [Datum.product, Option.map_some, Format.write, nearest_binade]
    · rw [read_nearest h h1, h1]
      cases t <;> simp [Datum.opposite]
  · right
    refine ⟨k.format.word (t ^^ isNeg k p) k.format.infRung, ?_, ?_⟩
    · unfold Format.mul
      rw [hu, read_inf h]
      simp only [Datum.product, if_neg hb, Option.map_some, Format.write, Bool.xor_comm]
    · rw [read_infW, read_inf h]
      cases t <;> simp [Datum.opposite]
  · left
    refine ⟨h, ?_⟩
    unfold Format.mul
    rw [product_nan_right (by unfold isNanW at h; exact h)]; rfl

theorem add_one_mul (x p : Fl) : Fl.add k x (Fl.mul k (some (oneW k)) p) = Fl.add k x p := by
  cases p with
  | none => rfl
  | some p =>
    rcases unit_mul (k := k) false read_one p with ⟨h1, h2⟩ | ⟨w, h1, h2⟩
    · have : Fl.mul k (some (oneW k)) (some p) = none := h2
      rw [this]
      cases x with
      | none => rfl
      | some x =>
        show none = k.format.add x p
        unfold Format.add
        rw [sum_nan_right (by unfold isNanW at h1; exact h1)]; rfl
    · have : Fl.mul k (some (oneW k)) (some p) = some w := h1
      rw [this]
      cases x with
      | none => rfl
      | some x =>
        show k.format.add x w = k.format.add x p
        unfold Format.add
        rw [h2]; rfl
theorem add_negOne_mul (x p : Fl) : Fl.add k x (Fl.mul k (some (negOneW k)) p) = Fl.sub k x p := by
  cases p with
  | none => cases x <;> rfl
  | some p =>
    rcases unit_mul (k := k) true read_negOne p with ⟨h1, h2⟩ | ⟨w, h1, h2⟩
    · have : Fl.mul k (some (negOneW k)) (some p) = none := h2
      rw [this]
      cases x with
      | none => rfl
      | some x =>
        show none = k.format.sub x p
        unfold Format.sub
        rw [sum_nan_right (by rw [isNaN_opposite]; unfold isNanW at h1; exact h1)]; rfl
    · have : Fl.mul k (some (negOneW k)) (some p) = some w := h1
      rw [this]
      cases x with
      | none => rfl
      | some x =>
        show k.format.add x w = k.format.sub x p
        unfold Format.add Format.sub
        rw [h2]; rfl

theorem read_log {w : Nat} {s : Bool} {m : Nat} {p : Int} (h : k.format.read w = .number s m p) : m < 2 * k.format.binade := by
  unfold Format.read at h
  dsimp only at h
  split at h
  · rename_i h1; cases h; omega
  · split at h
    · cases h
      have := Nat.mod_lt (w % k.format.signWeight) (fmt_consts k).1
      omega
    · split at h <;> cases h
theorem log_binade : k.format.binade.log2 = k.format.fractionBits := by cases k <;> decide +kernel
/-- A half is a quotient. -/
theorem div_two (x : Fl) : Fl.div k x (some (twoW k)) = Fl.mul k (some (halfW k)) x := by
  have hb : k.format.binade ≠ 0 := Nat.ne_of_gt (fmt_consts k).1
  cases x with
  | none => rfl
  | some x =>
    show k.format.div x (twoW k) = k.format.mul (halfW k) x
    unfold Format.div Format.mul
    rw [read_two, read_half]
    cases hx : k.format.read x with
    | nan s t => rfl
    | infinity s =>
      simp only [Datum.quotient, Datum.product, if_neg hb, Option.map_some, Bool.xor_false]
    | number s m i =>
      simp only [Datum.quotient, Datum.product, if_neg hb, Option.map_some, Bool.xor_false, Bool.false_xor, Format.write, Option.some.injEq]
      have hm := read_log hx
      have hl : m.log2 ≤ k.format.fractionBits := by
        by_cases h0 : m = 0
        · subst h0; simp
        · have : m.log2 < k.format.fractionBits + 1 := (Nat.log2_lt h0).2 (by rw [binade_pow] at hm; rw [Nat.pow_succ]; omega)
          omega
      rw [log_binade]
      generalize hmore : k.format.fractionBits + 2 + k.format.fractionBits - m.log2 = more
      obtain ⟨d, rfl⟩ : ∃ d, more = k.format.fractionBits + d := ⟨more - k.format.fractionBits, by omega⟩
      have e1 : m <<< (k.format.fractionBits + d) = m * 2 ^ d * k.format.binade := by
        rw [Nat.shiftLeft_eq, binade_pow, Nat.pow_add, Nat.mul_assoc, Nat.mul_comm (2 ^ d)]
      rw [e1, Nat.mul_div_cancel _ (Nat.pos_of_ne_zero hb), Nat.mul_mod_left]
      have e2 : 2 * (m * 2 ^ d) + ((0 : Nat) != 0).toNat = m * 2 ^ (d + 1) := by
        rw [Nat.pow_succ]
        simp only [bne_self_eq_false, Bool.toNat_false, Nat.add_zero]
        rw [Nat.mul_comm 2, Nat.mul_assoc]
      rw [e2, nearest_rung, nearest_rung, rungN_up]
      congr 1
      rw [Nat.mul_comm, binade_pow, rungN_up]
      congr 1
      simp only [Int.natCast_add]
      omega
end
end Go.Sx

/-
  Sx, part C: the model's runs on memory, and the steps that they are.
-/
namespace Go.Sx

/-! ### Runs -/

section
variable {P : Program}

theorem add_none (b o i : Nat) : (⟨b, o, none⟩ : Addr).add i = ⟨b, o + i, none⟩ := by
  unfold Addr.add
  split
  · rename_i h; subst h; rfl
  · rfl

theorem cell_of {w : World} {b : Nat} {xs : Array Value} {t : TypeId} {fz : Nat × Nat} (h : w.heap[b]? = some (.cells xs t fz)) (o : Nat) : w.cell? ⟨b, o, none⟩ = xs[o]? := by
  unfold World.cell?; simp [h]

theorem run_load_at {w : World} {b o : Nat} {v : Value} (h : w.cell? ⟨b, o, none⟩ = some v) : (load ⟨b, o, none⟩).run P w = .ok v w := by
  simp [load, Sem.run, h]

theorem run_loadCells_at {w : World} {b : Nat} {xs : Array Value} {t : TypeId} {fz : Nat × Nat} (h : w.heap[b]? = some (.cells xs t fz)) (o : Nat) :
    ∀ (n i : Nat) (acc : Array Value), o + i + n ≤ xs.size → (loadCellsFrom ⟨b, o, none⟩ i n acc).run P w = .ok (acc ++ xs.extract (o + i) (o + i + n)) w := by
  intro n
  induction n with
  | zero => intro i acc _; simp [loadCellsFrom]; omega
  | succ n ih =>
    intro i acc hle
    have hlt : o + i < xs.size := by omega
    have hl : (load ((⟨b, o, none⟩ : Addr).add i)).run P w = .ok xs[o + i] w := by
      rw [add_none]; exact run_load_at (by rw [cell_of h]; simp [hlt])
    unfold loadCellsFrom
    rw [Sem.run_bind, hl, Result.andThen_ok, ih (i + 1) _ (by omega)]
    congr 1
    have e1 : o + (i + 1) = o + i + 1 := by omega
    have e2 : o + i + 1 + n = o + i + (n + 1) := by omega
    rw [e1, e2]
    apply Array.toList_inj.1
    simp only [Array.toList_append, Array.toList_push, Array.toList_extract, List.append_assoc]
    congr 1
    rw [List.extract_eq_take_drop, List.extract_eq_take_drop]
    have e3 : o + i + (n + 1) - (o + i) = n + 1 := by omega
    have e4 : o + i + (n + 1) - (o + i + 1) = n := by omega
    rw [e3, e4]
    rw [List.drop_eq_getElem_cons (show o + i < xs.toList.length by simpa using hlt)]
    simp

def aggT (P : Program) (t : TypeId) : Option Bool :=
  match P.underlying t with
  | some (.struct _) => some true
  | some (.array _ _) => some true
  | some _ => some false
  | none => none
def szT (P : Program) (t : TypeId) : Option Nat := (P.info? t).map (·.size)
def zeroT (P : Program) (t : TypeId) : Option Value := (P.info? t).bind (·.zero)

theorem run_und {t : TypeId} {d : TypeDesc} (h : P.underlying t = some d) (w : World) : (underlying t).run P w = .ok d w := by
  simp [underlying, h]

theorem run_isAgg_of {t : TypeId} {b : Bool} (h : aggT P t = some b) (w : World) : (isAgg t).run P w = .ok b w := by
  unfold aggT at h
  unfold isAgg
  cases hu : P.underlying t with
  | none => rw [hu] at h; simp at h
  | some d => rw [hu] at h; rw [Sem.run_bind, run_und hu]; cases d <;> simp_all

theorem run_info {t : TypeId} {i : TypeInfo} (h : P.info? t = some i) (w : World) : (typeInfo t).run P w = .ok i w := by
  simp [typeInfo, h]

theorem run_sizeOf_of {t : TypeId} {n : Nat} (h : szT P t = some n) (w : World) : (sizeOf t).run P w = .ok n w := by
  unfold szT at h
  cases hi : P.info? t with
  | none => rw [hi] at h; cases h
  | some i => rw [hi] at h; simp at h; simp [sizeOf, run_info hi, h]

theorem run_zero_of {t : TypeId} {v : Value} (h : zeroT P t = some v) (w : World) : (zeroValue t).run P w = .ok v w := by
  unfold zeroT at h
  cases hi : P.info? t with
  | none => rw [hi] at h; cases h
  | some i => rw [hi] at h; simp at h; simp [zeroValue, run_info hi, h]

theorem run_loadVar_agg {w : World} {b o n : Nat} {xs : Array Value} {t t' : TypeId} {fz : Nat × Nat} (h : w.heap[b]? = some (.cells xs t' fz)) (ha : aggT P t = some true) (hs : szT P t = some n)
    (hle : o + n ≤ xs.size) : (loadVar t ⟨b, o, none⟩).run P w = .ok (.agg (xs.extract o (o + n))) w := by
  unfold loadVar
  rw [Sem.run_bind, run_isAgg_of ha, Result.andThen_ok, if_pos rfl]
  simp only [Sem.run_bind, run_sizeOf_of hs, Result.andThen_ok, loadCells]
  rw [run_loadCells_at h o n 0 #[] (by omega)]
  simp

theorem run_loadVar_one {w : World} {b o : Nat} {v : Value} {xs : Array Value} {t t' : TypeId} {fz : Nat × Nat} (h : w.heap[b]? = some (.cells xs t' fz)) (ha : aggT P t = some false)
    (hv : xs[o]? = some v) : (loadVar t ⟨b, o, none⟩).run P w = .ok v w := by
  unfold loadVar
  rw [Sem.run_bind, run_isAgg_of ha, Result.andThen_ok, if_neg (by simp)]
  exact run_load_at (by rw [cell_of h]; exact hv)

theorem run_newVar_of (t : TypeId) (v : Value) (w : World) : (newVar t v).run P w = .ok ⟨w.heap.size, 0, none⟩ (w.alloc (.cells v.cells t)) := by
  simp [newVar, newRow]

/-- The cells of an array with some put in. -/
def putIn (xs : Array Value) (o : Nat) : List Value → Array Value
  | [] => xs
  | v :: vs => putIn (xs.setIfInBounds o v) (o + 1) vs

theorem putIn_size : ∀ (vs : List Value) (xs : Array Value) (o : Nat), (putIn xs o vs).size = xs.size := by
  intro vs
  induction vs with
  | nil => intro xs o; rfl
  | cons v vs ih => intro xs o; simp [putIn, ih]

theorem putIn_get : ∀ (vs : List Value) (xs : Array Value) (o j : Nat), o + vs.length ≤ xs.size → (putIn xs o vs)[j]? = if o ≤ j ∧ j < o + vs.length then vs[j - o]? else xs[j]? := by
  intro vs
  induction vs with
  | nil => intro xs o j _; rw [if_neg (by simp only [List.length_nil]; omega)]; rfl
  | cons v vs ih =>
    intro xs o j h
    simp only [List.length_cons] at h ⊢
    rw [putIn, ih _ _ _ (by simp; omega)]
    by_cases h1 : o + 1 ≤ j ∧ j < o + 1 + vs.length
    · rw [if_pos h1, if_pos (by omega)]
      have : j - o = (j - (o + 1)) + 1 := by omega
      rw [this]; rfl
    · rw [if_neg h1]
      by_cases h2 : j = o
      · subst h2
        rw [if_pos (by omega), Nat.sub_self, Array.getElem?_setIfInBounds_self_of_lt (by omega)]
        rfl
      · rw [if_neg (by omega), Array.getElem?_setIfInBounds_ne (by omega)]

/-- What a store of many cells leaves. -/
structure Wrote (b : Nat) (xs' : Array Value) (t : TypeId) (w w' : World) : Prop where
  at_ : w'.heap[b]? = some (.cells xs' t (0, 0))
  off : ∀ k, k ≠ b → w'.heap[k]? = w.heap[k]?
  size : w'.heap.size = w.heap.size
  os : w'.os = w.os
  tape : w'.tape = w.tape
  output : w'.output = w.output

theorem run_storeCells_at {b o : Nat} {t : TypeId} : ∀ (vs : List Value) (i : Nat) (xs : Array Value) (w : World), w.heap[b]? = some (.cells xs t (0, 0)) → o + i + vs.length ≤ xs.size → (∀ v ∈ vs, v.oneCell' = true) →
    ∃ w', (storeCells ⟨b, o, none⟩ vs i).run P w = .ok () w' ∧ Wrote b (putIn xs (o + i) vs) t w w' := by
  intro vs
  induction vs with
  | nil => intro i xs w h _ _; exact ⟨w, rfl, h, fun _ _ => rfl, rfl, rfl, rfl, rfl⟩
  | cons v vs ih =>
    intro i xs w h hle h1
    simp only [List.length_cons] at hle
    have hc : w.cell? ⟨b, o + i, none⟩ = some xs[o + i] := by rw [cell_of h]; exact Array.getElem?_eq_getElem (by omega)
    have hf : w.frozen? ⟨b, o + i, none⟩ = false := by unfold World.frozen?; simp [h]
    have hs : (store ((⟨b, o, none⟩ : Addr).add i) v).run P w = .ok () (w.setCell ⟨b, o + i, none⟩ v) := by
      rw [add_none, run_store P w _ v .plain (h1 v (by simp)), hc]; simp [hf]
    have hb : b < w.heap.size := by
      rcases Nat.lt_or_ge b w.heap.size with h' | h'
      · exact h'
      · rw [Array.getElem?_eq_none h'] at h; cases h
    have h' : (w.setCell ⟨b, o + i, none⟩ v).heap[b]? = some (.cells (xs.setIfInBounds (o + i) v) t (0, 0)) := by
      simp [World.setCell, Array.getElem?_modify, h]
    obtain ⟨w', hr, hw⟩ := ih (i + 1) _ _ h' (by simp; omega) (fun v hv => h1 v (by simp [hv]))
    refine ⟨w', ?_, ?_⟩
    · unfold storeCells; rw [Sem.run_bind, hs, Result.andThen_ok]; exact hr
    · refine ⟨?_, fun k hk => (hw.off k hk).trans ?_, hw.size.trans (by simp [World.setCell]), hw.os, hw.tape, hw.output⟩
      · have := hw.at_; rw [show o + (i + 1) = o + i + 1 from rfl] at this; exact this
      · simp [World.setCell, Array.getElem?_modify]; intro e; exact absurd e.symm hk

theorem run_storeVar_of {b o : Nat} {t t' : TypeId} {xs : Array Value} {w : World} {v : Value} (h : w.heap[b]? = some (.cells xs t' (0, 0))) (hs : szT P t = some v.cells.size) (hle : o + v.cells.size ≤ xs.size)
    (h1 : ∀ x ∈ v.cells.toList, x.oneCell' = true) : ∃ w', (storeVar t ⟨b, o, none⟩ v).run P w = .ok () w' ∧ Wrote b (putIn xs o v.cells.toList) t' w w' := by
  obtain ⟨w', hr, hw⟩ := run_storeCells_at (P := P) (o := o) v.cells.toList 0 xs w h (by simpa using hle) h1
  refine ⟨w', ?_, hw⟩
  unfold storeVar
  simp only [Sem.run_bind, run_sizeOf_of hs, Result.andThen_ok, ne_eq, not_true_eq_false, if_false]
  simpa using hr
end

/-! ### Steps -/

section
variable {U : Nat → D → D} {L : Nat → Prop} {r : Nat → D} {g : Gh} {c : Cx} {w w' : World}

/-- The worlds are one but for draws. -/
structure Same (w w' : World) : Prop where
  heap : w'.heap = w.heap
  os : w'.os = w.os
  tape : w'.tape = w.tape
  output : w'.output = w.output

theorem Same.refl (w : World) : Same w w := ⟨rfl, rfl, rfl, rfl⟩

theorem HeapDen.same (hh : HeapDen U r g L c.h w) (hs : Same w w') : HeapDen U r g L c.h w' :=
  ⟨hh.bnd, fun id h => by rw [hs.heap]; exact hh.lt id h, fun id b h1 h2 => by rw [hs.heap]; exact hh.blk id b h1 h2, hh.inj, fun id b ks e h1 h2 h3 => by rw [hs.heap]; exact hh.rows id b ks e h1 h2 h3, hh.live⟩

theorem ext_same (hh : HeapDen U r g L c.h w) {pc : List (E × Bool)} (hp : PcOk U r pc) (hs : Same w w') : Ext U L r g c w r g { c with pc := pc } w' where
  nv := Nat.le_refl _
  agr := fun _ => rfl
  len := Nat.le_refl _
  ga := fun _ _ => ⟨rfl, rfl⟩
  go := fun _ _ => rfl
  heap := by rw [Lx_self]; exact hh.same hs
  pc := hp
  frm := ⟨hs.os, hs.tape, hs.output, by rw [hs.heap]; exact Nat.le_refl _, fun k _ _ => by rw [hs.heap]⟩
  wrs := fun id b h1 h2 h3 => by rw [Lx_self] at h1; exact .inr ⟨id, b, h1, h2, h3, rfl⟩
  fresh := fun id h1 h2 => by have h2 : id < c.h.length := h2; omega

/-- One place more. -/
def Gh.put (g : Gh) (id a n : Nat) (o : Nat := 0) : Gh := ⟨fun i => if i = id then a else g.a i, fun i => if i = id then n else g.n i, fun i => if i = id then o else g.o i⟩

theorem gle_put (hb : ∀ id, L id → id < c.h.length) (a n : Nat) (o : Option SB) (f : Nat := 0) : GLe g L (g.put c.h.length a n f) (Lx L c.h (c.h ++ [o])) :=
  ⟨fun id h => by have := hb id h; exact ⟨.inl h, by simp [Gh.put]; omega, by simp [Gh.put]; omega⟩, fun id h => by have := hb id h; simp [Gh.put]; omega⟩

/-- Cells hold what a block tells of a row. -/
def RowHas (U : Nat → D → D) (r : Nat → D) (rw : Option (List Sk × E)) (o : Nat) (xs : Array Value) : Prop := ∀ ks e, rw = some (ks, e) → RowDen ks (e.ev U r).toL o xs
theorem RowHas.none {o : Nat} {xs : Array Value} : RowHas U r none o xs := fun _ _ h => by cases h

theorem ext_alloc (hh : HeapDen U r g L c.h w) (hp : PcOk U r c.pc) {cs : List SV} {xs : Array Value} (t : TypeId) (hd : SV.denL U r g L cs (xs.toList.take cs.length)) (hle : cs.length ≤ xs.size) (wr : Bool) (rw : Option (List Sk × E) := none) (hrw : RowHas U r rw 0 xs := by exact RowHas.none) :
    Ext U L r g c w r (g.put c.h.length w.heap.size xs.size) { c with h := c.h ++ [some ⟨wr, cs, rw⟩] } (w.alloc (.cells xs t)) where
  nv := Nat.le_refl _
  agr := fun _ => rfl
  len := by simp
  ga := fun id h => by
    have : id ≠ c.h.length := fun e => h ⟨by omega, by simp; omega⟩
    simp [Gh.put, this]
  go := fun id h => by
    have : id ≠ c.h.length := fun e => h ⟨by omega, by simp; omega⟩
    simp [Gh.put, this]
  heap := by
    have gl := gle_put (g := g) hh.bnd w.heap.size xs.size (some ⟨wr, cs, rw⟩)
    have alt : ∀ id, Lx L c.h (c.h ++ [some ⟨wr, cs, rw⟩]) id → (L id ∧ id < c.h.length ∧ (g.put c.h.length w.heap.size xs.size).a id = g.a id) ∨ id = c.h.length := by
      rintro id (h | h)
      · exact .inl ⟨h, hh.bnd id h, (gl.on id h).2.1⟩
      · right; simp at h; omega
    have new : (g.put c.h.length w.heap.size xs.size).a c.h.length = w.heap.size := by simp [Gh.put]
    refine ⟨?_, ?_, ?_, ?_, ?_, ?_⟩
    · intro id h; rcases alt id h with ⟨_, h, _⟩ | h <;> simp <;> omega
    · intro id h
      rcases alt id h with ⟨h1, _, h2⟩ | h
      · rw [h2]; have := hh.lt id h1; simp; omega
      · subst h; rw [new]; simp
    · intro id b h hb
      rcases alt id h with ⟨h1, h2, h3⟩ | h
      · have hb' : c.h[id]? = some (some b) := by rw [List.getElem?_append_left h2] at hb; exact hb
        obtain ⟨ys, t', fz, e1, e2, e3, e4, e5⟩ := hh.blk id b h1 hb'
        refine ⟨ys, t', fz, ?_, ?_, e3, e4, fun j s hs => ?_⟩
        · rw [h3]; show (w.heap.push _)[g.a id]? = _; rw [Array.getElem?_push, if_neg (by have := hh.lt id h1; omega)]; exact e1
        · rw [(gl.on id h1).2.2]; exact e2
        · obtain ⟨v, hv, hd⟩ := e5 j s hs; exact ⟨v, hv, SV.den_mono gl hd⟩
      · subst h
        have hb' : b = ⟨wr, cs, rw⟩ := by simpa using hb.symm
        subst hb'
        refine ⟨xs, t, (0, 0), ?_, by simp [Gh.put], fun _ => rfl, hle, fun j s hs => ?_⟩
        · rw [new]; show (w.heap.push _)[w.heap.size]? = _; simp
        · obtain ⟨v, hv, hd⟩ := SV.denL_get U r g L hd hs
          refine ⟨v, ?_, SV.den_mono gl hd⟩
          rw [List.getElem?_take] at hv
          split at hv
          · simpa using hv
          · cases hv
    · intro i j b b' hi hj hb hwr hb' he
      rcases alt i hi with ⟨h1, h2, h3⟩ | h <;> rcases alt j hj with ⟨k1, k2, k3⟩ | k
      · rw [h3, k3] at he
        rw [List.getElem?_append_left h2] at hb
        rw [List.getElem?_append_left k2] at hb'
        exact hh.inj i j b b' h1 k1 hb hwr hb' he
      · subst k; rw [h3, new] at he; have := hh.lt i h1; omega
      · subst h; rw [k3, new] at he; have := hh.lt j k1; omega
      · omega
    · intro id b ks e h hb hr
      rcases alt id h with ⟨h1, h2, h3⟩ | h
      · have hb' : c.h[id]? = some (some b) := by rw [List.getElem?_append_left h2] at hb; exact hb
        obtain ⟨ys, t', fz, e1, e2⟩ := hh.rows id b ks e h1 hb' hr
        refine ⟨ys, t', fz, ?_, by rw [gl.off id h1]; exact e2⟩
        rw [h3]; show (w.heap.push _)[g.a id]? = _; rw [Array.getElem?_push, if_neg (by have := hh.lt id h1; omega)]; exact e1
      · subst h
        have hb' : b = ⟨wr, cs, rw⟩ := by simpa using hb.symm
        subst hb'
        refine ⟨xs, t, (0, 0), ?_, ?_⟩
        · rw [new]; show (w.heap.push _)[w.heap.size]? = _; simp
        · have := hrw ks e hr
          simpa [Gh.put] using this
    · intro id b hb hw
      by_cases hlt : id < c.h.length
      · have hb' : c.h[id]? = some (some b) := by rw [List.getElem?_append_left hlt] at hb; exact hb
        exact .inl (hh.live id b hb' hw)
      · have : id < (c.h ++ [some (⟨wr, cs, rw⟩ : SB)]).length := (List.getElem?_eq_some_iff.1 hb).1
        exact .inr ⟨by omega, this⟩
  pc := hp
  frm := ⟨rfl, rfl, rfl, by simp, fun k hk _ => by show (w.heap.push _)[k]? = _; rw [Array.getElem?_push, if_neg (by omega)]⟩
  wrs := fun id b h hb hwr => by
    rcases h with h | h
    · right
      have h2 := hh.bnd id h
      have hb' : c.h[id]? = some (some b) := by
        have hb : (c.h ++ [some ⟨wr, cs, rw⟩])[id]? = some (some b) := hb
        rw [List.getElem?_append_left h2] at hb; exact hb
      refine ⟨id, b, h, hb', hwr, ?_⟩
      have : id ≠ c.h.length := by omega
      simp [Gh.put, this]
    · left
      have : id = c.h.length := by have : id < (c.h ++ [some (⟨wr, cs, rw⟩ : SB)]).length := h.2; simp at this; omega
      simp [Gh.put, this]
  fresh := fun id h1 h2 => by
    have : id = c.h.length := by have : id < (c.h ++ [some (⟨wr, cs, rw⟩ : SB)]).length := h2; simp at this; omega
    simp [Gh.put, this]

/-- A store into a block that may be written. -/
theorem ext_store (hh : HeapDen U r g L c.h w) (hp : PcOk U r c.pc) {id : Nat} {b : SB} (hl : L id) (hb : c.h[id]? = some (some b)) (hwr : b.wr = true) {xs' : Array Value} {t : TypeId} {cs' : List SV}
    (hw : Wrote (g.a id) xs' t w w') (hsz : xs'.size = g.n id) (hle : cs'.length ≤ xs'.size) (hd : ∀ (j : Nat) (s : SV), cs'[j]? = some s → ∃ v, xs'[j]? = some v ∧ s.den U r g L v)
    (rw : Option (List Sk × E) := none) (hrw : RowHas U r rw (g.o id) xs' := by exact RowHas.none) :
    Ext U L r g c w r g { c with h := c.h.set id (some ⟨true, cs', rw⟩) } w' where
  nv := Nat.le_refl _
  agr := fun _ => rfl
  len := by simp
  ga := fun _ _ => ⟨rfl, rfl⟩
  go := fun _ _ => rfl
  heap := by
    have hL : Lx L c.h (c.h.set id (some ⟨true, cs', rw⟩)) = L := by
      funext k; apply propext; unfold Lx; simp
      intro h1 h2; omega
    show HeapDen U r g (Lx L c.h (c.h.set id (some ⟨true, cs', rw⟩))) (c.h.set id (some ⟨true, cs', rw⟩)) w'
    rw [hL]
    have hid := hh.bnd id hl
    have old : ∀ {k : Nat} {b' : SB}, (c.h.set id (some ⟨true, cs', rw⟩))[k]? = some (some b') → k ≠ id → c.h[k]? = some (some b') := by
      intro k b' h hk; rwa [List.getElem?_set_ne (Ne.symm hk)] at h
    refine ⟨fun k h => by simpa using hh.bnd k h, fun k h => by rw [hw.size]; exact hh.lt k h, fun k b' h hb' => ?_, fun i j bi bj hi hj hbi hwi hbj he => ?_, fun k b' ks e h hb' hr => ?_, fun k b' hb' hw => ?_⟩
    · by_cases hk : k = id
      · subst hk
        have : b' = ⟨true, cs', rw⟩ := by
          rw [List.getElem?_set_self hid] at hb'; simpa using hb'.symm
        subst this
        exact ⟨xs', t, (0, 0), hw.at_, hsz, fun _ => rfl, hle, hd⟩
      · have hb'' := old hb' hk
        obtain ⟨ys, t', fz, e1, e2, e3, e4, e5⟩ := hh.blk k b' h hb''
        have hne : g.a k ≠ g.a id := fun e => hk (hh.inj id k b b' hl h hb hwr hb'' e.symm).symm
        exact ⟨ys, t', fz, by rw [hw.off _ hne]; exact e1, e2, e3, e4, e5⟩
    · by_cases hi' : i = id
      · subst hi'
        by_cases hj' : j = i
        · exact hj'.symm
        · exact hh.inj i j b bj hl hj hb hwr (old hbj hj') he
      · by_cases hj' : j = id
        · subst hj'; exact hh.inj i j bi b hi hl (old hbi hi') hwi hb he
        · exact hh.inj i j bi bj hi hj (old hbi hi') hwi (old hbj hj') he
    · by_cases hk : k = id
      · subst hk
        have : b' = ⟨true, cs', rw⟩ := by
          rw [List.getElem?_set_self hid] at hb'; simpa using hb'.symm
        subst this
        exact ⟨xs', t, (0, 0), hw.at_, hrw ks e hr⟩
      · have hb'' := old hb' hk
        obtain ⟨ys, t', fz, e1, e2⟩ := hh.rows k b' ks e h hb'' hr
        have hne : g.a k ≠ g.a id := fun e => hk (hh.inj id k b b' hl h hb hwr hb'' e.symm).symm
        exact ⟨ys, t', fz, by rw [hw.off _ hne]; exact e1, e2⟩
    · by_cases hk : k = id
      · subst hk; exact hl
      · exact hh.live k b' (old hb' hk) hw
  pc := hp
  frm := ⟨hw.os, hw.tape, hw.output, by rw [hw.size]; exact Nat.le_refl _, fun k _ hn => hw.off k fun e => hn ⟨id, b, hl, hb, hwr, e.symm⟩⟩
  wrs := fun k b' h hb' hw' => by
    right
    have hk : L k := by
      rcases h with h | h
      · exact h
      · have : k < (c.h.set id (some (⟨true, cs', rw⟩ : SB))).length := h.2; simp at this; have := h.1; omega
    by_cases hkid : k = id
    · subst hkid; exact ⟨k, b, hl, hb, hwr, rfl⟩
    · have hb'' : (c.h.set id (some (⟨true, cs', rw⟩ : SB)))[k]? = some (some b') := hb'
      rw [List.getElem?_set_ne (Ne.symm hkid)] at hb''
      exact ⟨k, b', hk, hb'', hw', rfl⟩
  fresh := fun k h1 h2 => by have h2 : k < (c.h.set id (some (⟨true, cs', rw⟩ : SB))).length := h2; simp at h2; omega
end
end Go.Sx

/-
  Sx, part D: what one operation does to symbolic values, and that the model does it so.
-/
namespace Go.Sx
open E (mk1 mk2 mkIte mk1_ev mk2_ev mkIte_ev)

/-! ### Values of the program's text -/

def ofCell : Value → SV
  | .bool b => .bool (.b b)
  | .int k n => .int k (.i n)
  | .float k b => if b < 2 ^ k.format.width then .flt k (.f (cn k b)) else .con (.float k b)
  | .string s => .str (.s s.data.toList)
  | v => .con v

def ofValue : Value → SV
  | .agg cs => .agg (cs.toList.map ofCell)
  | v => ofCell v

section
variable {U : Nat → D → D} {L : Nat → Prop} {r : Nat → D} {g : Gh} {c : Cx} {w : World} {P : Program}

theorem ofCell_den (v : Value) : (ofCell v).den U r g L v := by
  cases v <;> simp only [ofCell]
  case float k b =>
    split
    · rename_i h; exact ⟨b, rfl, h, rfl⟩
    · rfl
  all_goals rfl

theorem denL_map_ofCell : ∀ (l : List Value), SV.denL U r g L (l.map ofCell) l
  | [] => by simp [SV.denL]
  | a :: l => by simp only [List.map, SV.denL]; exact ⟨ofCell_den a, denL_map_ofCell l⟩

theorem ofValue_den (v : Value) : (ofValue v).den U r g L v := by
  cases v with
  | agg cs => exact ⟨cs, rfl, denL_map_ofCell _⟩
  | _ => simp only [ofValue]; exact ofCell_den _

/-! ### Cells -/

/-- May it lie in one cell? -/
def SV.one : SV → Bool
  | .any | .agg _ | .tup _ => false
  | .con v => v.oneCell'
  | _ => true

theorem one_ok {s : SV} {v : Value} (h : s.one = true) (hd : s.den U r g L v) : v.oneCell' = true := by
  cases s with
  | any => simp [SV.one] at h
  | agg cs => simp [SV.one] at h
  | tup cs => simp [SV.one] at h
  | con u => simp only [SV.den] at hd; subst hd; exact h
  | bool e => simp only [SV.den] at hd; subst hd; rfl
  | int k e => simp only [SV.den] at hd; subst hd; rfl
  | flt k e => simp only [SV.den] at hd; obtain ⟨b, rfl, _⟩ := hd; rfl
  | str e => simp only [SV.den] at hd; subst hd; rfl
  | fb k e => simp only [SV.den] at hd; obtain ⟨b, rfl, _⟩ := hd; rfl
  | ptr id off => simp only [SV.den] at hd; obtain ⟨_, rfl⟩ := hd; rfl
  | sl id off sz len cap => simp only [SV.den] at hd; obtain ⟨_, _, _, rfl, _⟩ := hd; rfl
  | fn f xs ys => simp only [SV.den] at hd; obtain ⟨_, _, rfl, _⟩ := hd; rfl
  | slo id sz len => simp only [SV.den] at hd; obtain ⟨_, _, _, rfl, _⟩ := hd; rfl
  | ptrI id sz i f => simp only [SV.den] at hd; obtain ⟨_, _, rfl⟩ := hd; rfl
  | emp => simp only [SV.den] at hd; obtain ⟨_, rfl⟩ := hd; rfl

def SV.cells? : SV → Option (List SV)
  | .agg cs => if cs.all SV.one then some cs else none
  | s => if s.one then some [s] else none

theorem cells_of_one {v : Value} (h : v.oneCell' = true) : v.cells = #[v] := by
  cases v <;> first | rfl | simp [Value.oneCell'] at h

theorem cells_ok {s : SV} {v : Value} {cs : List SV} (h : s.cells? = some cs) (hd : s.den U r g L v) : SV.denL U r g L cs v.cells.toList ∧ (∀ x ∈ v.cells.toList, x.oneCell' = true) := by
  unfold SV.cells? at h
  split at h
  · rename_i cs'
    split at h
    · rename_i ha
      cases h
      simp only [SV.den] at hd
      obtain ⟨xs, rfl, hc⟩ := hd
      refine ⟨hc, fun x hx => ?_⟩
      obtain ⟨i, hi, rfl⟩ := List.getElem_of_mem hx
      have hi : i < xs.toList.length := hi
      have hl := SV.denL_length U r g L hc
      obtain ⟨v, hv, hd⟩ := SV.denL_get U r g L hc (i := i) (c := cs[i]'(by omega)) (by simp)
      have : v = xs.toList[i] := by
        rw [List.getElem?_eq_getElem hi] at hv; exact (Option.some.inj hv).symm
      subst this
      exact one_ok (List.all_eq_true.1 ha _ (List.getElem_mem _)) hd
    · cases h
  · split at h
    · rename_i h1
      cases h
      have h2 := one_ok h1 hd
      rw [cells_of_one h2]
      exact ⟨by simp only [SV.denL]; exact ⟨hd, trivial⟩, by simpa using h2⟩
    · cases h

/-! ### What is asked of an operation -/

/-- The run goes well, and 'K' holds of what it gives. -/
def VOk {α : Type} (P : Program) (s : Sem α) (w : World) (K : α → World → Prop) : Prop := ∃ v w', s.run P w = .ok v w' ∧ K v w'

theorem VOk.pure {α : Type} {a : α} {w : World} {K : α → World → Prop} (h : K a w) : VOk P (Pure.pure a) w K := ⟨a, w, rfl, h⟩
theorem VOk.bind {α β : Type} {s : Sem α} {f : α → Sem β} {w : World} {K : β → World → Prop} (h : VOk P s w fun a w' => VOk P (f a) w' K) : VOk P (s >>= f) w K := by
  obtain ⟨a, w', h1, b, w'', h2, h3⟩ := h
  exact ⟨b, w'', by rw [Sem.run_bind, h1]; exact h2, h3⟩
theorem VOk.mono {α : Type} {s : Sem α} {w : World} {K K' : α → World → Prop} (h : VOk P s w K) (hk : ∀ a w', K a w' → K' a w') : VOk P s w K' :=
  let ⟨a, w', h1, h2⟩ := h; ⟨a, w', h1, hk _ _ h2⟩

/-- The leaf of a step: in whatever memory it ends. -/
def Post (U : Nat → D → D) (L : Nat → Prop) (r : Nat → D) (g : Gh) (c : Cx) (w : World) (K : Value → World → Prop) (r' : Nat → D) (x : SV × Cx) : Prop :=
  ∀ g' v w', Ext U L r g c w r' g' x.2 w' → x.1.den U r' g' (Lx L c.h x.2.h) v → K v w'

theorem Post.same {K : Value → World → Prop} {s : SV} {pc : List (E × Bool)} (h : Post U L r g c w K r (s, { c with pc := pc })) (hh : HeapDen U r g L c.h w) (hp : PcOk U r pc) {w' : World} (hs : Same w w') {v : Value}
    (hd : s.den U r g L v) : K v w' :=
  h g v w' (ext_same hh hp hs) (by show s.den U r g (Lx L c.h c.h) v; rw [Lx_self]; exact hd)

/-- A plain value. -/
theorem Post.pureOk {K : Value → World → Prop} {s : SV} {pc : List (E × Bool)} (h : Post U L r g c w K r (s, { c with pc := pc })) (hh : HeapDen U r g L c.h w) (hp : PcOk U r pc) {v : Value} (hd : s.den U r g L v) : VOk P (Pure.pure v) w K :=
  .pure (h.same hh hp (Same.refl w) hd)

/-! ### Products of what is bounded -/

/-- What a word is at most, by what a way has met. -/
def ubP : List (E × Bool) → E → Option Int
  | [], _ => none
  | (.o2 .ilt (.i c) z, false) :: l, x => if z.same x then some c else ubP l x
  | (.o2 .ile z (.i c), true) :: l, x => if z.same x then some c else ubP l x
  | _ :: l, x => ubP l x
theorem ubP_ok {x : E} {u : Int} : ∀ {pc : List (E × Bool)}, PcOk U r pc → ubP pc x = some u → (x.ev U r).toI ≤ u := by
  intro pc
  induction pc with
  | nil => intro _ h; cases h
  | cons a l ih =>
    intro hp h
    have hl := ih (fun y hy => hp y (List.mem_cons_of_mem _ hy))
    unfold ubP at h
    split at h
    · cases ‹_ :: _ = []›
    · rename_i heq
      cases heq
      split at h
      · rename_i hs
        cases h
        have h0 := hp _ (List.mem_cons_self ..)
        rw [← E.same_eq hs]
        have h0 := of_decide_eq_false (show decide (_ < _) = false from h0)
        exact Int.not_lt.1 h0
      · exact hl h
    · rename_i heq
      cases heq
      split at h
      · rename_i hs
        cases h
        have h0 := hp _ (List.mem_cons_self ..)
        rw [← E.same_eq hs]
        exact of_decide_eq_true (show decide (_ ≤ _) = true from h0)
      · exact hl h
    · rename_i heq
      cases heq
      exact hl h
def isLit : E → Bool
  | .i _ => true
  | _ => false
def nnE (x : E) : Bool := match (rngE x).1 with
  | some l => decide (0 ≤ l)
  | none => false
/-- The product of two such words is bounded too. -/
def mulPc (pc : List (E × Bool)) (x y : E) : List (E × Bool) :=
  if isLit x || isLit y then pc else match ubP pc x, ubP pc y with
  | some a, some b => if nnE x && nnE y then (.o2 .ile (mk2 .imul x y) (.i (a * b)), true) :: (.o2 .ile (.i 0) (mk2 .imul x y), true) :: pc else pc
  | _, _ => pc
theorem mulPc_ok {pc : List (E × Bool)} (hp : PcOk U r pc) (x y : E) : PcOk U r (mulPc pc x y) := by
  have nn : ∀ {z : E}, nnE z = true → 0 ≤ (z.ev U r).toI := fun {z} h => by
    unfold nnE at h
    split at h
    · rename_i l hl
      have h1 := (rngE_ok (U := U) (r := r) z).1 l hl
      have h2 := of_decide_eq_true h
      omega
    · cases h
  unfold mulPc
  split
  · exact hp
  · split
    · rename_i a b ha hb
      split
      · rename_i h
        rw [Bool.and_eq_true] at h
        have h1 := ubP_ok hp ha
        have h2 := ubP_ok hp hb
        have h3 := nn h.1
        have h4 := nn h.2
        have hv : ((mk2 .imul x y).ev U r).toI = (x.ev U r).toI * (y.ev U r).toI := by rw [mk2_ev]; rfl
        intro z hz
        rcases List.mem_cons.1 hz with rfl | hz
        · show decide (((mk2 .imul x y).ev U r).toI ≤ a * b) = true
          rw [hv]
          exact decide_eq_true (Int.mul_le_mul h1 h2 h4 (by omega))
        · rcases List.mem_cons.1 hz with rfl | hz
          · show decide (0 ≤ ((mk2 .imul x y).ev U r).toI) = true
            rw [hv]
            exact decide_eq_true (Int.mul_nonneg h3 h4)
          · exact hp z hz
      · exact hp
    · exact hp

/-! ### Operations of two operands -/

def binI (c : Cx) (op : BinOp) (k : IntKind) (x y : E) : Tree (SV × Cx) :=
  match op with
  | .add => .ret (.int k (wrapC c.pc k (mk2 .iadd x y)), c)
  | .sub => .ret (.int k (wrapC c.pc k (mk2 .isub x y)), c)
  | .mul => .ret (.int k (wrapC (mulPc c.pc x y) k (mk2 .imul x y)), { c with pc := mulPc c.pc x y })
  | .quo => br c (mk2 .ieq y (.i 0)) (fun _ => .bad) fun c => .ret (.int k (mk1 (.wrap k) (mk2 .itdiv x y)), c)
  | .rem => br c (mk2 .ieq y (.i 0)) (fun _ => .bad) fun c => .ret (.int k (mk2 .itmod x y), c)
  | .and => .ret (.int k (mk2 (.iand k) x y), c)
  | .or => .ret (.int k (mk2 (.ior k) x y), c)
  | .xor => .ret (.int k (mk2 (.ixor k) x y), c)
  | .andNot => .ret (.int k (mk2 (.iandn k) x y), c)
  | .eql => .ret (.bool (mk2 .ieq x y), c)
  | .neq => .ret (.bool (mk1 .not (mk2 .ieq x y)), c)
  | .lss => .ret (.bool (mk2 .ilt x y), c)
  | .leq => .ret (.bool (mk2 .ile x y), c)
  | .gtr => .ret (.bool (mk2 .ilt y x), c)
  | .geq => .ret (.bool (mk2 .ile y x), c)
  | _ => .bad

def shiftI (c : Cx) (op : BinOp) (k : IntKind) (x : E) (n : Int) : Tree (SV × Cx) :=
  if n < 0 then .bad else
  match op with
  | .shl => .ret (.int k (mk1 (.wrap k) (mk2 .ishl x (.i (min n.toNat k.bits : Nat)))), c)
  | .shr => .ret (.int k (mk2 .ishr x (.i (min n.toNat k.bits : Nat))), c)
  | _ => .bad

def binF (c : Cx) (op : BinOp) (k : FloatKind) (x y : E) : Tree (SV × Cx) :=
  match op with
  | .add => .ret (.flt k (mk2 (.fadd k) x y), c)
  | .sub => .ret (.flt k (mk2 (.fsub k) x y), c)
  | .mul => .ret (.flt k (mk2 (.fmul k) x y), c)
  | .quo => .ret (.flt k (mk2 (.fdiv k) x y), c)
  | .eql => .ret (.bool (mk2 (.feq k) x y), c)
  | .neq => .ret (.bool (mk1 .not (mk2 (.feq k) x y)), c)
  | .lss => .ret (.bool (mk2 (.flt k) x y), c)
  | .leq => .ret (.bool (mk2 (.fle k) x y), c)
  | .gtr => .ret (.bool (mk2 (.flt k) y x), c)
  | .geq => .ret (.bool (mk2 (.fle k) y x), c)
  | _ => .bad

def binS (c : Cx) (op : BinOp) (x y : E) : Tree (SV × Cx) :=
  match op with
  | .add => br c (mk2 .ile (mk2 .iadd (mk1 .slen x) (mk1 .slen y)) (.i 9223372036854775807)) (fun c => .ret (.str (mk2 .scat x y), c)) (fun _ => .bad)
  | .eql => .ret (.bool (mk2 .seq x y), c)
  | .neq => .ret (.bool (mk1 .not (mk2 .seq x y)), c)
  | .lss => .ret (.bool (mk2 .slt x y), c)
  | .geq => .ret (.bool (mk1 .not (mk2 .slt x y)), c)
  | _ => .bad

def binB (P : Program) (c : Cx) (op : BinOp) (t : TypeId) (x y : E) : Tree (SV × Cx) :=
  match P.underlying t with
  | some .bool =>
    match op with
    | .eql => .ret (.bool (mk2 .beq x y), c)
    | .neq => .ret (.bool (mk1 .not (mk2 .beq x y)), c)
    | _ => .bad
  | _ => .bad

/-- Surely nil, or surely not. -/
def SV.nil? : SV → Option Bool
  | .ptr _ _ | .sl _ _ _ _ _ | .fn _ _ _ => some false
  | .con (.pointer none) | .con (.slice none _ _) | .con .nilFunc => some true
  | _ => none

def binN (P : Program) (c : Cx) (op : BinOp) (t : TypeId) (x y : SV) : Tree (SV × Cx) :=
  match x.nil?, y.nil? with
  | some a, some b =>
    if a || b then
      match P.underlying t, op with
      | some (.pointer _), .eql | some (.slice _), .eql | some (.func _ _ _), .eql => .ret (.bool (.b (a && b)), c)
      | some (.pointer _), .neq | some (.slice _), .neq | some (.func _ _ _), .neq => .ret (.bool (.b (!(a && b))), c)
      | _, _ => .bad
    else .bad
  | _, _ => .bad

def bin (P : Program) (c : Cx) (op : BinOp) (t : TypeId) (x y : SV) : Tree (SV × Cx) :=
  match x, y with
  | .int k a, .int k' b =>
    match op with
    | .shl | .shr => match b with
      | .i n => shiftI c op k a n
      | _ => .bad
    | op => if k = k' then binI c op k a b else .bad
  | .flt k a, .flt k' b => if k = k' then binF c op k a b else .bad
  | .str a, .str b => binS c op a b
  | .bool a, .bool b => binB P c op t a b
  | .fb k e, .int k' (.i m) => if op = .andNot ∧ k' = ukOf k ∧ m = (k.format.signWeight : Int) then .ret (.fb k (mk1 (.fabs k) e), c) else .bad
  | _, _ => .bad

theorem floatArith_run (op : BinOp) (k : FloatKind) (x y : Nat) (w : World) (hop : op = .add ∨ op = .sub ∨ op = .mul ∨ op = .quo) :
    ∃ b w', (Op.floatArith op k x y).run P w = .ok (.float k b) w' ∧ b < 2 ^ k.format.width ∧ cn k b = fop op k x y ∧ Same w w' := by
  cases hf : fop op k x y with
  | some b =>
    refine ⟨b, w, ?_, fop_lt hf, cn_of_not (fop_not_nan hf), Same.refl w⟩
    unfold fop at hf
    rcases hop with rfl | rfl | rfl | rfl <;> simp only at hf <;> simp [Op.floatArith, hf]
  | none =>
    obtain ⟨h1, h2, h3⟩ := nan_drawn (.nanBits k x y) k (.inl ⟨x, y, rfl⟩) (w.tape w.drawn (.nanBits k x y))
    refine ⟨_, { w with drawn := w.drawn + 1 }, ?_, h2, h3, ⟨rfl, rfl, rfl, rfl⟩⟩
    unfold fop at hf
    rcases hop with rfl | rfl | rfl | rfl <;> simp only at hf <;> simp [Op.floatArith, hf, h1]

/-- The guard at '==' lets plain values by. -/
theorem eqGuard_by (op : BinOp) (t : TypeId) (ox oy : Operand) {x y : Value} (w : World) (hx : x ≠ .nilIface) (ha : ∀ cs, x ≠ .agg cs) : (eqGuard op t ox oy x y).run P w = .ok () w := by
  unfold eqGuard
  cases op <;> first
    | rfl
    | (cases x <;> first | rfl | exact absurd rfl hx | exact absurd rfl (ha _))

theorem toI_i (n : Int) : (E.ev U r (.i n)).toI = n := rfl

theorem sat_br {α : Type} {Q : (Nat → D) → α → Prop} {e : E} {t f : Cx → Tree α} (hp : PcOk U r c.pc) (h : (br c e t f).sat U Q r) :
    ∃ pc', PcOk U r pc' ∧ (((e.ev U r).toB = true ∧ (t { c with pc := pc' }).sat U Q r) ∨ ((e.ev U r).toB = false ∧ (f { c with pc := pc' }).sat U Q r)) := br_sat hp h

theorem binI_ok {K : Value → World → Prop} {op : BinOp} {k : IntKind} {t : TypeId} {x y : E} (hh : HeapDen U r g L c.h w) (hp : PcOk U r c.pc) (h : (binI c op k x y).sat U (Post U L r g c w K) r)
    (h1 : op ≠ .shl) (h2 : op ≠ .shr) : VOk P (Go.binOp op t (.int k (x.ev U r).toI) (.int k (y.ev U r).toI)) w K := by
  cases op <;> simp only [binI] at h <;> (try exact h.elim) <;> (try exact absurd rfl h1) <;> (try exact absurd rfl h2)
  case quo =>
    obtain ⟨pc, hp', h | h⟩ := sat_br hp h
    · exact h.2.elim
    · have hy : (y.ev U r).toI ≠ 0 := by
        have := h.1; rw [mk2_ev] at this; simpa [O2.ev, D.toB, E.ev, D.toI] using this
      simp only [Go.binOp, ne_eq, not_true_eq_false, if_false, Op.intDiv, if_neg hy]
      exact Post.pureOk h.2 hh hp' (by simp only [SV.den, mk1_ev, mk2_ev]; rfl)
  case rem =>
    obtain ⟨pc, hp', h | h⟩ := sat_br hp h
    · exact h.2.elim
    · have hy : (y.ev U r).toI ≠ 0 := by
        have := h.1; rw [mk2_ev] at this; simpa [O2.ev, D.toB, E.ev, D.toI] using this
      simp only [Go.binOp, ne_eq, not_true_eq_false, if_false, Op.intDiv, if_neg hy]
      exact Post.pureOk h.2 hh hp' (by simp only [SV.den, mk2_ev]; rfl)
  case mul =>
    simp only [Go.binOp, ne_eq, not_true_eq_false, if_false, Op.intArith]
    refine Post.pureOk h hh (mulPc_ok hp x y) ?_
    show Value.int k _ = Value.int k _
    rw [wrapC_ev (mulPc_ok hp x y), mk2_ev]
    rfl
  all_goals
    simp only [Go.binOp, ne_eq, not_true_eq_false, if_false, Op.intArith, Op.intBits, Op.intCmp]
    refine Post.pureOk h hh hp ?_
    first
      | (show Value.int k _ = Value.int k _; rw [wrapC_ev hp, mk2_ev]; rfl)
      | (simp only [SV.den, mk1_ev, mk2_ev, O1.ev, O2.ev, D.toI, D.toB]; try rfl)

theorem shiftI_ok {K : Value → World → Prop} {op : BinOp} {k k' : IntKind} {t : TypeId} {x : E} {n : Int} (hh : HeapDen U r g L c.h w) (hp : PcOk U r c.pc) (h : (shiftI c op k x n).sat U (Post U L r g c w K) r) :
    VOk P (Go.binOp op t (.int k (x.ev U r).toI) (.int k' n)) w K := by
  unfold shiftI at h
  split at h
  · exact h.elim
  · rename_i hn
    cases op <;> simp only at h <;> (try exact h.elim)
    all_goals
      simp only [Go.binOp, Op.shift, if_neg hn]
      refine Post.pureOk h hh hp ?_
      simp only [SV.den, mk1_ev, mk2_ev, O1.ev, O2.ev, D.toI, E.ev]
      try rfl

theorem fop_ev {op : BinOp} {k : FloatKind} {p q : Nat} {x y : Fl} (hp : cn k p = x) (hq : cn k q = y) : fop op k p q = Fl.op op k x y := by
  rw [← hp, ← hq, op_cn]

theorem binF_ok {K : Value → World → Prop} {op : BinOp} {k : FloatKind} {t : TypeId} {x y : E} {p q : Nat} (hh : HeapDen U r g L c.h w) (hpc : PcOk U r c.pc) (h : (binF c op k x y).sat U (Post U L r g c w K) r)
    (hx : cn k p = (x.ev U r).toF) (hy : cn k q = (y.ev U r).toF) : VOk P (Go.binOp op t (.float k p) (.float k q)) w K := by
  have ho := ord_cn k p q
  rw [hx, hy] at ho
  cases op <;> simp only [binF] at h <;> (try exact h.elim)
  case add =>
    obtain ⟨b, w', h1, h2, h3, h4⟩ := floatArith_run (P := P) .add k p q w (.inl rfl)
    refine ⟨_, w', by simp only [Go.binOp, ne_eq, not_true_eq_false, if_false]; exact h1, Post.same h hh hpc h4 ⟨b, rfl, h2, ?_⟩⟩
    rw [h3, fop_ev hx hy, mk2_ev]; rfl
  case sub =>
    obtain ⟨b, w', h1, h2, h3, h4⟩ := floatArith_run (P := P) .sub k p q w (.inr (.inl rfl))
    refine ⟨_, w', by simp only [Go.binOp, ne_eq, not_true_eq_false, if_false]; exact h1, Post.same h hh hpc h4 ⟨b, rfl, h2, ?_⟩⟩
    rw [h3, fop_ev hx hy, mk2_ev]; rfl
  case mul =>
    obtain ⟨b, w', h1, h2, h3, h4⟩ := floatArith_run (P := P) .mul k p q w (.inr (.inr (.inl rfl)))
    refine ⟨_, w', by simp only [Go.binOp, ne_eq, not_true_eq_false, if_false]; exact h1, Post.same h hh hpc h4 ⟨b, rfl, h2, ?_⟩⟩
    rw [h3, fop_ev hx hy, mk2_ev]; rfl
  case quo =>
    obtain ⟨b, w', h1, h2, h3, h4⟩ := floatArith_run (P := P) .quo k p q w (.inr (.inr (.inr rfl)))
    refine ⟨_, w', by simp only [Go.binOp, ne_eq, not_true_eq_false, if_false]; exact h1, Post.same h hh hpc h4 ⟨b, rfl, h2, ?_⟩⟩
    rw [h3, fop_ev hx hy, mk2_ev]; rfl
  case gtr =>
    simp only [Go.binOp, ne_eq, not_true_eq_false, if_false, Op.floatCmp]
    refine Post.pureOk h hh hpc ?_
    simp only [SV.den, mk2_ev, O2.ev, D.toB]
    rw [← gt_swap]; simp only [Fl.gt, ho]
  case geq =>
    simp only [Go.binOp, ne_eq, not_true_eq_false, if_false, Op.floatCmp]
    refine Post.pureOk h hh hpc ?_
    simp only [SV.den, mk2_ev, O2.ev, D.toB]
    rw [← ge_swap]; simp only [Fl.ge, ho]
  all_goals
    simp only [Go.binOp, ne_eq, not_true_eq_false, if_false, Op.floatCmp]
    refine Post.pureOk h hh hpc ?_
    simp only [SV.den, mk1_ev, mk2_ev, O1.ev, O2.ev, D.toB, Fl.eq, Fl.lt, Fl.le, ho]
    try rfl

theorem binS_ok {K : Value → World → Prop} {op : BinOp} {t : TypeId} {x y : E} (hh : HeapDen U r g L c.h w) (hp : PcOk U r c.pc) (h : (binS c op x y).sat U (Post U L r g c w K) r) :
    VOk P (Go.binOp op t (.string (x.ev U r).toS) (.string (y.ev U r).toS)) w K := by
  cases op <;> simp only [binS] at h <;> (try exact h.elim)
  case add =>
    obtain ⟨pc, hp', h | h⟩ := sat_br hp h
    · have hle : ¬ ((((x.ev U r).toS.size + (y.ev U r).toS.size : Nat) : Int) > IntKind.i64.max) := by
        have := h.1
        simp only [mk2_ev, mk1_ev, O2.ev, O1.ev, D.toB, D.toI, E.ev, decide_eq_true_eq] at this
        have e : IntKind.i64.max = 9223372036854775807 := by decide
        rw [e]; omega
      simp only [Go.binOp, Op.stringOp, if_neg hle]
      exact Post.pureOk h.2 hh hp' (by simp only [SV.den, mk2_ev]; rfl)
    · exact h.2.elim
  all_goals
    simp only [Go.binOp, Op.stringOp]
    refine Post.pureOk h hh hp ?_
    simp only [SV.den, mk1_ev, mk2_ev, O1.ev, O2.ev, D.toB]

theorem binB_ok {K : Value → World → Prop} {op : BinOp} {t : TypeId} {x y : E} (hh : HeapDen U r g L c.h w) (hp : PcOk U r c.pc) (h : (binB P c op t x y).sat U (Post U L r g c w K) r) :
    VOk P (Go.binOp op t (.bool (x.ev U r).toB) (.bool (y.ev U r).toB)) w K := by
  unfold binB at h
  split at h
  · rename_i hu
    have he : ∀ a b w, (Op.equal t (.bool a) (.bool b)).run P w = .ok (a == b) w := by
      intro a b w
      have key : ∀ d, (Op.equalIn (d + 1) t (.bool a) (.bool b)).run P w = .ok (a == b) w := by
        intro d; rw [Op.equalIn, Sem.run_bind, run_und hu]; rfl
      exact key 9999
    cases op <;> simp only at h <;> (try exact h.elim)
    · refine ⟨.bool ((x.ev U r).toB == (y.ev U r).toB), w, by simp [Go.binOp, he], Post.same h hh hp (Same.refl w) ?_⟩
      simp only [SV.den, mk2_ev]; rfl
    · refine ⟨.bool (!((x.ev U r).toB == (y.ev U r).toB)), w, by simp [Go.binOp, he], Post.same h hh hp (Same.refl w) ?_⟩
      simp only [SV.den, mk1_ev, mk2_ev]; rfl
  · exact h.elim

theorem clear_sign (k : FloatKind) {b : Nat} (hb : b < 2 ^ k.format.width) : (ukOf k).wrap (BitVec.ofInt (ukOf k).bits (b : Int) &&& ~~~ BitVec.ofInt (ukOf k).bits (k.format.signWeight : Int)).toNat = ((b % k.format.signWeight : Nat) : Int) := by
  cases k with
  | f32 =>
    show IntKind.u32.wrap (BitVec.ofInt 32 (b : Int) &&& ~~~ BitVec.ofInt 32 2147483648).toNat = ((b % 2147483648 : Nat) : Int)
    have hb : b < 4294967296 := hb
    have h1 : ~~~ BitVec.ofInt 32 2147483648 = BitVec.ofNat 32 2147483647 := by decide
    have h2 : (BitVec.ofInt 32 (b : Int) &&& BitVec.ofNat 32 2147483647).toNat = b % 2147483648 := by
      rw [BitVec.ofInt_natCast, BitVec.toNat_and, BitVec.toNat_ofNat, BitVec.toNat_ofNat, Nat.mod_eq_of_lt hb]
      exact Nat.and_two_pow_sub_one_eq_mod b 31
    rw [h1, h2, IntKind.wrap_u32]
    omega
  | f64 =>
    show IntKind.u64.wrap (BitVec.ofInt 64 (b : Int) &&& ~~~ BitVec.ofInt 64 9223372036854775808).toNat = ((b % 9223372036854775808 : Nat) : Int)
    have hb : b < 18446744073709551616 := hb
    have h1 : ~~~ BitVec.ofInt 64 9223372036854775808 = BitVec.ofNat 64 9223372036854775807 := by decide
    have h2 : (BitVec.ofInt 64 (b : Int) &&& BitVec.ofNat 64 9223372036854775807).toNat = b % 9223372036854775808 := by
      rw [BitVec.ofInt_natCast, BitVec.toNat_and, BitVec.toNat_ofNat, BitVec.toNat_ofNat, Nat.mod_eq_of_lt hb]
      exact Nat.and_two_pow_sub_one_eq_mod b 63
    rw [h1, h2, IntKind.wrap_u64]
    omega

theorem abs_cn (k : FloatKind) {b : Nat} : cn k (b % k.format.signWeight) = Fl.abs k (cn k b) := by
  have hn : isNanW k (b % k.format.signWeight) = isNanW k b := by rw [isNanW_eq, isNanW_eq, Nat.mod_mod]
  unfold cn
  rw [hn]
  split <;> rfl

theorem bin_ok {K : Value → World → Prop} {op : BinOp} {t : TypeId} {x y : SV} {vx vy : Value} (ox oy : Operand) (hh : HeapDen U r g L c.h w) (hp : PcOk U r c.pc) (hx : x.den U r g L vx) (hy : y.den U r g L vy)
    (h : (bin P c op t x y).sat U (Post U L r g c w K) r) : VOk P (do eqGuard op t ox oy vx vy; Go.binOp op t vx vy) w K := by
  have key : VOk P (Go.binOp op t vx vy) w K ∧ vx ≠ .nilIface ∧ ∀ cs, vx ≠ .agg cs := by
    unfold bin at h
    split at h
    · simp only [SV.den] at hx hy
      subst hx hy
      refine ⟨?_, by simp, by simp⟩
      split at h
      · split at h
        · exact shiftI_ok hh hp h
        · exact h.elim
      · split at h
        · exact shiftI_ok hh hp h
        · exact h.elim
      · split at h
        · rename_i h1 h2 hk; subst hk; exact binI_ok hh hp h h1 h2
        · exact h.elim
    · simp only [SV.den] at hx hy
      obtain ⟨p, rfl, hp1, hp2⟩ := hx
      obtain ⟨q, rfl, hq1, hq2⟩ := hy
      refine ⟨?_, by simp, by simp⟩
      split at h
      · rename_i hk; subst hk; exact binF_ok hh hp h hp2 hq2
      · exact h.elim
    · simp only [SV.den] at hx hy
      subst hx hy
      exact ⟨binS_ok hh hp h, by simp, by simp⟩
    · simp only [SV.den] at hx hy
      subst hx hy
      exact ⟨binB_ok hh hp h, by simp, by simp⟩
    · rename_i k e k' m
      simp only [SV.den] at hx hy
      obtain ⟨b, rfl, hb1, hb2⟩ := hx
      subst hy
      refine ⟨?_, by simp, by simp⟩
      split at h
      · rename_i hc
        obtain ⟨rfl, rfl, rfl⟩ := hc
        have hlt : b % k.format.signWeight < 2 ^ k.format.width := by
          obtain ⟨h0, h1, h2, h3, _⟩ := fmt_consts k
          have := Nat.mod_lt b (show k.format.signWeight > 0 by omega)
          omega
        have he := clear_sign k hb1
        simp only [Go.binOp, ne_eq, not_true_eq_false, if_false, Op.intBits, E.ev, D.toI]
        refine Post.pureOk h hh hp ?_
        simp only [SV.den, mk1_ev, O1.ev]
        refine ⟨b % k.format.signWeight, ?_, hlt, by rw [abs_cn, hb2]; rfl⟩
        congr 1
      · exact h.elim
    · exact h.elim
  refine VOk.bind ⟨(), w, eqGuard_by op t ox oy w key.2.1 key.2.2, key.1⟩

end
end Go.Sx
